/- NetOrder: messages that are taken one by one from the front are those that were sent, in order; for every list of messages. -/
import Derived.Test.YtbaombnnagidcaaNetAny
import Derived.Test.YtbaombnnagidcaaClose
namespace Go.Proofs.Ytbaombnnagidcaa.netOrder
open Go.RowKit Go.Deep Go.WideShapes Go.ChangeShapes Go.ChangeAt

/-- The net holds s; beside it lies the row of those that were sent, t. -/
def Ord (W w : World) (s t : List (List UInt8)) (a : Option Addr) (c : Nat) : Prop :=
  ∃ F R vs, NetRep F w W.heap.size s ∧ Own R w 25 1 a t.length c vs ∧ All2 (Elem (Old W) w) vs t ∧ (∀ k, F k → Fr W w k) ∧ (∀ k, R k → Fr W w k ∧ ¬ F k) ∧ Upd Nil W w

theorem elemOld {W w : World} {v : Value} {xs : List UInt8} (h : Elem (Old W) W v xs) (u : Upd Nil W w) : Elem (Old W) w v xs := h.keep u

theorem Ord.sent {W w w1 w2 : World} {s : List (List UInt8)} {xs : List UInt8} {F F' R : Nat → Prop} {vs : List Value} {a2 : Option Addr} {c2 : Nat} {v : Value} {o : Obj}
    (_hn : NetRep F w W.heap.size s) (hall : All2 (Elem (Old W) w) vs s) (hF : ∀ k, F k → Fr W w k) (hR : ∀ k, R k → Fr W w k ∧ ¬ F k) (hU : Upd Nil W w)
    (hn1 : NetRep F' w1 W.heap.size (s ++ [xs])) (hu1 : Upd F w w1) (hF1 : ∀ k, F' k → F k ∨ Fr w w1 k) (hv : Elem (Old W) w v xs)
    (hown2 : Own (fun k => R k ∨ Fr (w1.alloc o) w2 k) w2 25 1 a2 (s.length + 1) c2 (vs ++ [v])) (hu2 : Upd R (w1.alloc o) w2) : Ord W w2 (s ++ [xs]) (s ++ [xs]) a2 c2 := by
  have hz0 := hU.size
  have hz1 := hu1.size
  have hz2 := hu2.size
  simp only [World.size_alloc] at hz2
  have old : ∀ k, Old W k → ¬ F k := fun k hk f => by have h1 : k < W.heap.size := hk; have := (hF k f).1; omega
  have oldR : ∀ k, Old W k → ¬ R k := fun k hk f => by have h1 : k < W.heap.size := hk; have := (hR k f).1.1; omega
  refine ⟨F', _, vs ++ [v], (hn1.upd ((Upd.refl Nil w1).alloc o) (fun _ _ f => f)).upd hu2 (fun k hk hr => ?_), by simpa using hown2, ?_, fun k hk => ?_, fun k hk => ⟨?_, fun f => ?_⟩, ?_⟩
  · rcases hF1 k hk with h | h
    · exact (hR k hr).2 h
    · have := (hR k hr).1.2
      have := h.1
      omega
  · refine (hall.snoc hv).mono (fun v x h => ?_)
    exact ((h.upd hu1 old).keep ((Upd.refl Nil w1).alloc o)).upd hu2 oldR
  · rcases hF1 k hk with h | h
    · exact ⟨(hF k h).1, by have := (hF k h).2; omega⟩
    · exact ⟨by have := h.1; omega, by have := h.2; omega⟩
  · rcases hk with h | h
    · exact ⟨(hR k h).1.1, by have := (hR k h).1.2; omega⟩
    · exact ⟨by have := h.1; simp at this; omega, h.2⟩
  · rcases hk with h | h
    · rcases hF1 k f with g | g
      · exact (hR k h).2 g
      · have := (hR k h).1.2
        have := g.1
        omega
    · have h1 := h.1
      simp at h1
      rcases hF1 k f with g | g
      · have := (hF k g).2
        omega
      · have := g.2
        omega
  · exact ((hU.trans hu1 (fun k f hk => by have := (hF k f).1; omega)).alloc o).trans hu2 (fun k f hk => by have := (hR k f).1.1; omega)

def Head (l s : List (List UInt8)) (j : Nat) : Prop := 0 < j → ∀ h : 0 < l.length, 4096 < l[0].length ∨ s ≠ []

def Inv1 (W : World) (l : List (List UInt8)) (v : Value) (j : Nat) (wr : World) : Prop := ∃ s a c, v = .slice a s.length c ∧ Ord W wr s s a c ∧ Fits s ∧ Head l s j
def Inv2 (W : World) (s : List (List UInt8)) (a : Option Addr) (c : Nat) (j : Nat) (wr : World) : Prop := Ord W wr (s.drop j) s a c

set_option maxRecDepth 100000 in
set_option maxHeartbeats 4000000 in
theorem walk (w : World) (A : Option Addr) (c0 : Nat) (vs0 : List Value) (l : List (List UInt8)) (hrow : Row (Old w) w A vs0) (hall : All2 (Elem (Old w) w) vs0 l) (hl : l.length ≤ 9223372036854775807) :
    Calls Try.prog 3 #[.slice A l.length c0] w fun e w' => e = .returned (.bool true) ∧ Upd Nil w w' := by
  obtain ⟨i0, hi, hz0, hz1, hz2⟩ := info_parts infoBytes
  have hi0 := Lib.hid (And.intro hi (And.intro hz0 (And.intro hz1 hz2)))
  clear hi hz0 hz1 hz2
  have HROW := Lib.hid hrow
  have HALL := Lib.hid hall
  clear hrow hall
  go_enter Try.func3, Try.ntmps3
  go_wp2_with (go_at_call 12; refine (net_New _).mono ?_; rintro e w1 ⟨rfl, rfl⟩)
  go_loopg [4, 16] l.length (fun k v i wr => ∃ j : Nat, j + k = l.length ∧ i = .int .i64 j ∧ Inv1 w l v j wr)
  case atStart =>
    refine ⟨0, by omega, rfl, [], none, 0, rfl, ⟨One w.heap.size, Nil, [], Bag.new _ _ w, Own.none_ _ _ _ _, trivial, ?_, fun _ f => f.elim, (Upd.refl Nil w).alloc _⟩, Fits.nil, fun h => absurd h (Nat.lt_irrefl 0)⟩
    rintro k rfl
    exact ⟨Nat.le_refl _, by simp⟩
  case round =>
    obtain ⟨j, hjk, rfl, s, a, c, rfl, hord, hfit, hhead⟩ := hrel
    have hjn : j ≤ l.length := by omega
    obtain ⟨F, R, vs, hn, hown, hal, hF, hR, hU⟩ := hord
    have HJ := Lib.hid hjk
    have HN := Lib.hid hn
    have HO := Lib.hid hown
    have HA := Lib.hid hal
    have HF := Lib.hid hF
    have HR := Lib.hid hR
    have HU := Lib.hid hU
    have HFI := Lib.hid hfit
    have HH := Lib.hid hhead
    clear hjk hn hown hal hF hR hU hfit hhead
    by_cases hlt : j < l.length
    · obtain ⟨v, hv, hel⟩ := HALL.out.get hlt
      obtain ⟨ax, cx, rfl, rx, hax, _⟩ := id hel
      obtain ⟨b, o, rfl, _, hc0⟩ := rowAt HROW.out hv
      have hc := HU.out.cell hc0 (fun f => f)
      have HE := Lib.hid (hel.keep HU.out)
      have HX := Lib.hid (rx.keep HU.out)
      clear hv hel rx hax hc0
      by_cases hlong : 4096 < l[j].length
      · go_wp2_with (go_at_call 13; refine (net_send_long _ HN.out _ _ cx hlong).mono ?_; rintro e w1 ⟨rfl, rfl⟩)
        go_roundg (gk - 1)
        case measure => have := HJ.out; omega
        case rel =>
          refine ⟨j + 1, by have := HJ.out; omega, by go_num, s, a, c, rfl, ⟨F, R, vs, HN.out, HO.out, HA.out, HF.out, HR.out, HU.out⟩, HFI.out, fun _ h => ?_⟩
          rcases Nat.eq_zero_or_pos j with hj | hj
          · subst hj; exact .inl hlong
          · exact HH.out hj h
      · have hshort : l[j].length ≤ 4096 := by omega
        clear hlong
        by_cases hfull : 64 ≤ s.length
        · go_wp2_with (go_at_call 13; refine (net_send_full _ HN.out _ _ cx hshort hfull).mono ?_; rintro e w1 ⟨rfl, rfl⟩)
          go_roundg (gk - 1)
          case measure => have := HJ.out; omega
          case rel =>
            refine ⟨j + 1, by have := HJ.out; omega, by go_num, s, a, c, rfl, ⟨F, R, vs, HN.out, HO.out, HA.out, HF.out, HR.out, HU.out⟩, HFI.out, fun _ h => .inr ?_⟩
            rintro rfl
            simp at hfull
        · have hroom : s.length < 64 := by omega
          clear hfull
          have hnR : ∀ k, R k → ¬ F k := fun k hk => (HR.out k hk).2
          have HNR := Lib.hid hnR
          clear hnR
          go_wp2_with (first
            | (go_at_call 13; refine (net_send _ HN.out cx HX.out hshort hroom).mono ?_; rintro e w1 ⟨rfl, F', hb, hu, hF'⟩; have HB1 := Lib.hid hb; have HU1 := Lib.hid hu; have HF1 := Lib.hid hF'; clear hb hu hF')
            | (at_builtin; refine wpList_append_Own rfl _ _ _ rfl Try.underlying22 hi0.out.1 hi0.out.2.1 hi0.out.2.2.1 hi0.out.2.2.2 rfl (by decide) rfl ((HO.out.upd HU1.out HNR.out).alloc _) rfl (one_row w1 _ _) (by simp) (by simp [Value.oneCell']) (by intro h; cases h) (by simp only [maxLen]; omega) (by omega) ?_
               intro a2 c2 w2 hown2 hup2 hne2; have HO2 := Lib.hid hown2; have HU2 := Lib.hid hup2; clear hown2 hup2 hne2))
          go_roundg (gk - 1)
          case measure => have := HJ.out; omega
          case rel =>
            have hord := Ord.sent HN.out HA.out HF.out HR.out HU.out HB1.out HU1.out HF1.out HE.out HO2.out HU2.out
            have hfit' : Fits (s ++ [l[j]]) := by
              have := HFI.out.send l[j]
              unfold sendL at this
              rwa [if_neg (by omega), if_neg (by omega)] at this
            refine ⟨j + 1, by have := HJ.out; omega, by go_num, s ++ [l[j]], a2, c2, by simp, hord, hfit', fun _ h => .inr (by simp)⟩
    · obtain rfl : j = l.length := by omega
      clear hlt
      have hs64 := HFI.out.1
      have hs : s.length ≤ 9223372036854775807 := by omega
      go_wp2
      go_loopg [31] s.length (fun k i wq => ∃ q : Nat, q + k = s.length ∧ i = .int .i64 q ∧ Inv2 w s a c q wq)
      case atStart => exact ⟨0, by omega, rfl, F, R, vs, HN.out, HO.out, HA.out, HF.out, HR.out, HU.out⟩
      case round =>
        obtain ⟨q, hqk, rfl, hord⟩ := hrel
        have hqn : q ≤ s.length := by omega
        obtain ⟨F2, R2, us, hn2, hown2, hal2, hF2, hR2, hU2⟩ := hord
        have HQ := Lib.hid hqk
        have HN2 := Lib.hid hn2
        have HO2 := Lib.hid hown2
        have HA2 := Lib.hid hal2
        have HF2 := Lib.hid hF2
        have HR2 := Lib.hid hR2
        have HU2 := Lib.hid hU2
        clear hqk hn2 hown2 hal2 hF2 hR2 hU2
        by_cases hlt : q < s.length
        · obtain ⟨v, hv, ax, cx, rfl, rx, hax, _⟩ := HA2.out.get hlt
          obtain ⟨b, o, rfl, _, hc0⟩ := rowAt HO2.out.row hv
          have HX := Lib.hid rx
          have hd0 : 0 < (s.drop q).length := by simp; omega
          have hdx : (s.drop q)[0] = s[q] := by simp
          have hTk := net_Take_yes wr HN2.out (i := 0) hd0 (by simp; omega) (by rw [hdx]; have := HFI.out.at hlt; omega)
          rw [hdx] at hTk
          have HTk := Lib.hid hTk
          clear hv rx hax hd0 hdx hTk
          go_wp2_with (first
            | (go_at_call 14; refine HTk.out.mono ?_; rintro e w1 ⟨a1, c1, rfl, hown1, F3, hb, hu, hF3⟩; have HO1 := Lib.hid hown1; have HB1 := Lib.hid hb; have HU1 := Lib.hid hu; have HF3 := Lib.hid hF3; have HX1 := Lib.hid (HX.out.upd hu (fun k hk f => by have h1 : k < w.heap.size := hk; have := (HF2.out k f).1; omega)); clear hown1 hb hu hF3)
            | (go_at_call 15; refine (bytesEqual_yes _ _ _ HO1.out.row HX1.out rfl).mono ?_; rintro e w' ⟨rfl, rfl⟩))
          go_roundg (gk - 1)
          case measure => have := HQ.out; omega
          case rel =>
            have hold : All2 (Elem (Old w) w1) us s := HA2.out.mono (fun v x h => h.upd HU1.out (fun k hk f => by
              have h1 : k < w.heap.size := hk
              have := (HF2.out k f).1
              omega))
            refine ⟨q + 1, by have := HQ.out; omega, by go_num, F3, R2, us, ?_, HO2.out.upd HU1.out (fun k hk => (HR2.out k hk).2), hold, fun k hk => ?_, fun k hk => ⟨⟨(HR2.out k hk).1.1, by have := (HR2.out k hk).1.2; have := HU1.out.size; omega⟩, fun f => ?_⟩, HU2.out.trans HU1.out (fun k f hk => by have := (HF2.out k f).1; omega)⟩
            · have hd : (s.drop q).eraseIdx 0 = s.drop (q + 1) := by rw [List.eraseIdx_zero, List.tail_drop]
              rw [← hd]
              exact HB1.out
            · rcases HF3.out k hk with h | h
              · exact ⟨(HF2.out k h).1, by have := (HF2.out k h).2; have := HU1.out.size; omega⟩
              · exact ⟨by have := h.1; have := HU2.out.size; omega, h.2⟩
            · rcases HF3.out k f with h | h
              · exact (HR2.out k hk).2 h
              · have := (HR2.out k hk).1.2
                have := h.1
                omega
        · obtain rfl : q = s.length := by omega
          have hnil := HN2.out
          rw [List.drop_length] at hnil
          have HNil := Lib.hid (net_Take_no wr hnil (i := 0) (.inr (by simp)))
          have HH' := Lib.hid HH.out
          clear hnil hlt
          by_cases h0 : l.length = 0
          · have hb : ((l.length : Int) == 0) = true := by rw [h0]; rfl
            have H0 := Lib.hid h0
            clear h0
            go_wp2_with (go_at_call 14; refine HNil.out.mono ?_; rintro e w1 ⟨rfl, rfl⟩)
            go_ret
            exact ⟨rfl, HU2.out⟩
          · have hpos : 0 < l.length := by omega
            have hb : ((l.length : Int) == 0) = false := by rw [beq_eq_false_iff_ne]; omega
            obtain ⟨v, hv, hel⟩ := HALL.out.get hpos
            obtain ⟨ax, cx, rfl, _, _, _⟩ := id hel
            obtain ⟨b, o, rfl, _, hc0⟩ := rowAt HROW.out hv
            have hc : wr.cell? ⟨b, o, none⟩ = some (.slice ax (l[0]).length cx) := by simpa using HU2.out.cell hc0 (fun f => f)
            clear hv hel hc0 h0
            by_cases hlong : 4096 < (l[0]).length
            · go_wp2_with (go_at_call 14; refine HNil.out.mono ?_; rintro e w1 ⟨rfl, rfl⟩)
              go_ret
              exact ⟨rfl, HU2.out⟩
            · have hs0 : 0 < s.length := by
                rcases HH'.out hpos hpos with h | h
                · exact absurd h hlong
                · cases s with
                  | nil => exact absurd rfl h
                  | cons x xs => simp
              have hshort : l[0].length ≤ 4096 := by omega
              clear hlong
              go_wp2_with (go_at_call 14; refine HNil.out.mono ?_; rintro e w1 ⟨rfl, rfl⟩)
              go_ret
              exact ⟨rfl, HU2.out⟩

set_option maxRecDepth 100000 in
theorem lawWalk (cond : (H : Type) → List (DataW H) → Prop) : LawWalk 3 Try.f3 cond [] := by
  intro H enc W args ds ps hval hA hfit _ _
  rw [Try.params3] at hA hval hfit
  obtain ⟨v0, vs0, d0, ds0, p0, q0, hargs, rfl, rfl, h0, r0⟩ := trodAll_cons hA
  obtain ⟨rfl, rfl, rfl⟩ := trodAll_nil r0
  obtain rfl : args = #[v0] := by cases args; simp_all
  obtain ⟨fuel, h0⟩ := h0
  obtain ⟨a, n, c, vs, xss, hv, hnc, hcm, _, hrow, hall, hlen, _⟩ := open_rows Try.underlying22 Try.underlying25 Try.underlying5 (by kernel_rfl) (by kernel_rfl) h0 (by kernel_rfl) (hfit 0 _ d0 rfl rfl)
  obtain ⟨base, hok⟩ := hval 0 _ v0 rfl rfl
  obtain rfl := val_slice Try.underlying22 hok hv
  subst hlen
  exact walk W a c vs xss hrow hall (le_max (Nat.le_trans hnc hcm))

noncomputable def laidWorld (os : Os) : World := World.holding Try.prog os ⟨#[], #[], []⟩
theorem reads (os : Os) {H : Type} (enc : TypeId × Value → H) : ∃ places, DataW.whole enc Try.prog ((laidWorld os).forCall (fun _ _ => 0) ⟨#[], #[.slice none 0 0], []⟩).memory Try.f3.params.toList Rows.netOrderSpec.vars false (#[.slice none 0 0] : Array Value).toList 8 = some ([.nil], [], places) :=
  ⟨[], by kernel_rfl⟩

set_option maxRecDepth 100000 in
theorem lifted (os : Os) (started : os.Started) (H : Type) (enc : TypeId × Value → H) (F : Stop.Interp) :
    ReturnsInHanded {} Try.checked os 3 .any ((OpenSpec.ofChange Rows.netOrderSpec).preRow enc Try.prog Try.f3 Rows.netOrderRow.domain false Rows.netOrderRow.laid) (((OpenSpec.ofChange Rows.netOrderSpec).at F).post enc Try.prog Try.f3 false true false false) := by
  obtain ⟨places, hx⟩ := reads os enc
  refine returnsInHanded_of_row (C := Try.checked) (s := OpenSpec.ofChange Rows.netOrderSpec) own started (by kernel_rfl) Try.func3
    (witness_row_at (enc := enc) (C := Try.checked) false (laidWorld os) #[.slice none 0 0] rfl (by kernel_rfl) (by kernel_rfl) (by kernel_rfl)
      (OpenSpec.preRow_of_cond 8 hx (by kernel_rfl) (fun k hk => by cases hk) (by kernel_rfl) (laidMet_of_run' 8 (by kernel_rfl) (by kernel_rfl)))) ?_
  intro W base args ds gs before hval hW _ hk hsz hL _ _
  exact law_contract (k := (OpenSpec.ofChange Rows.netOrderSpec).cond) (lawWalk (fun _ _ => True)) (fun H ds h => trivial) (by decide +kernel) rfl rfl (fun H ds hd => by
    match ds, hd with
    | [_], _ => rfl) W base args ds gs before hval hW hk hsz hL

theorem said : Rows.NetOrderSaid :=
  OpenClaim.holds_of_cond 3 Try.f3 rfl rfl rfl rfl rfl rfl rfl ⟨rfl, rfl, rfl, rfl, rfl⟩ rfl rfl rfl rfl rfl (by kernel_rfl) Try.func3 (by kernel_rfl)
    (of_decide_eq_true (by kernel_rfl)) (by unfold Func.isWrapper; first | (rw [if_pos (by decide +kernel)]; kernel_rfl) | (rw [if_neg (by decide +kernel)]; exact ⟨rfl, rfl⟩))
    (fun os started H enc _ F => by rw [OpenClaim.pre_eq_preRow]; exact lifted os started H enc F)
#print axioms said
end Go.Proofs.Ytbaombnnagidcaa.netOrder
