/- WireNobody: a reader that no call made answers as the document says; for every integer. -/
import Derived.Test.YtbaombnnagidcaaClose
namespace Go.Proofs.Ytbaombnnagidcaa.wireNobody
open Go.RowKit Go.Deep Go.WideShapes Go.ChangeShapes Go.ChangeAt

theorem none_nil (w : World) : Calls Try.prog 51 #[.pointer none] w fun e w' => e = .returned (.bool true) ∧ w = w' := by
  go_enter Try.func51, Try.ntmps51
  go_wp2
  go_ret
  exact ⟨rfl, rfl⟩
theorem none_at (w : World) (b : Nat) (made : Bool) (h : w.cell? ⟨b, 2, none⟩ = some (.bool made)) : Calls Try.prog 51 #[.pointer (some ⟨b, 0, none⟩)] w fun e w' => e = .returned (.bool !made) ∧ w = w' := by
  go_enter Try.func51, Try.ntmps51
  go_wp2
  go_ret
  exact ⟨rfl, rfl⟩

/-- nil, or a reader whose mark says that no call made it -/
def Nob (w : World) (p : Option Addr) : Prop := p = none ∨ ∃ b, p = some ⟨b, 0, none⟩ ∧ w.cell? ⟨b, 2, none⟩ = some (.bool false)

theorem none_any (w : World) (p : Option Addr) (h : Nob w p) : Calls Try.prog 51 #[.pointer p] w fun e w' => e = .returned (.bool true) ∧ w = w' := by
  rcases h with rfl | ⟨b, rfl, hc⟩
  · exact none_nil w
  · exact none_at w b false hc
theorem uint_any (w : World) (p : Option Addr) (h : Nob w p) : Calls Try.prog 20 #[.pointer p] w fun e w' => e = .returned (.tuple #[.int .i64 0, .int .i64 2]) ∧ w = w' := by
  go_enter Try.func20, Try.ntmps20
  go_wp2_with (go_at_call 51; refine (none_any _ _ h).mono ?_; rintro e w' ⟨rfl, rfl⟩)
  go_ret2
  exact ⟨rfl, rfl⟩
theorem byte_any (w : World) (p : Option Addr) (h : Nob w p) : Calls Try.prog 21 #[.pointer p] w fun e w' => e = .returned (.tuple #[.int .u8 0, .int .i64 2]) ∧ w = w' := by
  go_enter Try.func21, Try.ntmps21
  go_wp2_with (go_at_call 51; refine (none_any _ _ h).mono ?_; rintro e w' ⟨rfl, rfl⟩)
  go_ret2
  exact ⟨rfl, rfl⟩
theorem text_any (w : World) (p : Option Addr) (n : Int) (h : Nob w p) : Calls Try.prog 22 #[.pointer p, .int .i64 n] w fun e w' => e = .returned (.tuple #[.string ⟨#[]⟩, .int .i64 2]) ∧ w = w' := by
  go_enter Try.func22, Try.ntmps22
  go_wp2_with (go_at_call 51; refine (none_any _ _ h).mono ?_; rintro e w' ⟨rfl, rfl⟩)
  go_ret2
  exact ⟨rfl, rfl⟩
theorem left_any (w : World) (p : Option Addr) (h : Nob w p) : Calls Try.prog 24 #[.pointer p] w fun e w' => e = .returned (.int .i64 0) ∧ w = w' := by
  go_enter Try.func24, Try.ntmps24
  go_wp2_with (go_at_call 51; refine (none_any _ _ h).mono ?_; rintro e w' ⟨rfl, rfl⟩)
  go_ret
  exact ⟨rfl, rfl⟩
theorem end_any (w : World) (p : Option Addr) (h : Nob w p) : Calls Try.prog 23 #[.pointer p] w fun e w' => e = .returned (.int .i64 2) ∧ w = w' := by
  go_enter Try.func23, Try.ntmps23
  go_wp2_with (go_at_call 51; refine (none_any _ _ h).mono ?_; rintro e w' ⟨rfl, rfl⟩)
  go_ret
  exact ⟨rfl, rfl⟩

/-- wire.Over of one byte: a reader that has one byte left -/
def Over1 (w : World) (e : Ending) (w' : World) : Prop := ∃ b a c, e = .returned (.pointer (some ⟨b, 0, none⟩)) ∧ Blk w' b 42 #[.slice a 1 c, .int .i64 0, .bool true] ∧ Upd Nil w w'
theorem over1 (w : World) : Calls Try.prog 25 #[.slice (some ⟨w.heap.size, 0, none⟩) 1 1] (w.alloc (.cells #[.int .u8 1] 5)) (Over1 (w.alloc (.cells #[.int .u8 1] 5))) := by
  go_enter Try.func25, Try.ntmps25
  go_wp2_with (go_at_call 54; refine (slicesCloneB _ 1 (xs := [1]) (one_row w (.int .u8 1) 5) (by decide)).mono ?_; rintro e w1 ⟨a1, c1, rfl, _, hup⟩; have HU := Lib.hid hup; clear hup)
  go_ret
  exact ⟨_, a1, c1, rfl, Blk.new w1 _ _, HU.out.alloc _⟩

theorem rest1 (w : World) (b : Nat) (a : Option Addr) (c : Nat) (h0 : w.cell? ⟨b, 0, none⟩ = some (.slice a 1 c)) (h1 : w.cell? ⟨b, 1, none⟩ = some (.int .i64 0)) :
    Calls Try.prog 53 #[.pointer (some ⟨b, 0, none⟩)] w fun e w' => (∃ a', e = .returned (.slice a' 1 c)) ∧ Upd Nil w w' := by
  go_enter Try.func53, Try.ntmps53
  go_wp2
  go_quiet (fail)
  go_wp2
  go_ret
  exact ⟨⟨_, rfl⟩, (Upd.refl Nil w).drewN _⟩
theorem left1 (w : World) (b : Nat) (a : Option Addr) (c : Nat) (h0 : w.cell? ⟨b, 0, none⟩ = some (.slice a 1 c)) (h1 : w.cell? ⟨b, 1, none⟩ = some (.int .i64 0)) (h2 : w.cell? ⟨b, 2, none⟩ = some (.bool true)) :
    Calls Try.prog 24 #[.pointer (some ⟨b, 0, none⟩)] w fun e w' => e = .returned (.int .i64 1) ∧ Upd Nil w w' := by
  go_enter Try.func24, Try.ntmps24
  go_wp2_with (first
    | (go_at_call 51; refine (none_at _ b true h2).mono ?_; rintro e w' ⟨rfl, rfl⟩)
    | (go_at_call 53; refine (rest1 _ b a c h0 h1).mono ?_; rintro e w' ⟨⟨a', rfl⟩, hu⟩; have HU := Lib.hid hu; clear hu))
  go_ret
  exact ⟨rfl, HU.out⟩

set_option maxRecDepth 100000 in
set_option maxHeartbeats 2000000 in
theorem walk (w : World) (most : Int) : Calls Try.prog 5 #[.int .i64 most] w fun e w' => e = .returned (.bool true) ∧ Upd Nil w w' := by
  go_enter Try.func5, Try.ntmps5
  go_wp2
  obtain ⟨W2, hW2⟩ : ∃ W2, (w.alloc (.cells #[.slice none 0 0, .int .i64 0, .bool false] 42)).alloc (.cells #[.pointer none, .pointer (some ⟨w.heap.size, 0, none⟩)] 38) = W2 := ⟨_, rfl⟩
  have hu2 : Upd Nil w W2 := by rw [← hW2]; exact ((Upd.refl Nil w).alloc _).alloc _
  have e0 : W2.cell? ⟨w.heap.size + 1, 0, none⟩ = some (.pointer none) := by rw [← hW2]; simp [go_sem]
  have e1 : W2.cell? ⟨w.heap.size + 1, 1, none⟩ = some (.pointer (some ⟨w.heap.size, 0, none⟩)) := by rw [← hW2]; simp [go_sem]
  have e2 : W2.cell? ⟨w.heap.size, 2, none⟩ = some (.bool false) := by rw [← hW2]; simp [go_sem]
  rw [hW2]
  have hn1 : Nob W2 none := .inl rfl
  have hn2 : Nob W2 (some ⟨w.heap.size, 0, none⟩) := .inr ⟨_, rfl, e2⟩
  have HN1 := Lib.hid hn1
  have HN2 := Lib.hid hn2
  have HU := Lib.hid hu2
  clear hn1 hn2 hu2 hW2
  go_loopg [15] 2 (fun k i wr => ∃ j : Nat, j + k = 2 ∧ i = .int .i64 j ∧ W2 = wr)
  case atStart => exact ⟨0, rfl, rfl, rfl⟩
  case round =>
    obtain ⟨j, hj, rfl, rfl⟩ := hrel
    have hj3 : j = 0 ∨ j = 1 ∨ j = 2 := by omega
    have HJ := Lib.hid hj
    clear hj
    rcases hj3 with rfl | rfl | rfl
    · go_wp2_with (first
        | (go_at_call 20; refine (uint_any _ _ HN1.out).mono ?_; rintro e w' ⟨rfl, rfl⟩)
        | (go_at_call 21; refine (byte_any _ _ HN1.out).mono ?_; rintro e w' ⟨rfl, rfl⟩)
        | (go_at_call 22; refine (text_any _ _ _ HN1.out).mono ?_; rintro e w' ⟨rfl, rfl⟩)
        | (go_at_call 23; refine (end_any _ _ HN1.out).mono ?_; rintro e w' ⟨rfl, rfl⟩)
        | (go_at_call 24; refine (left_any _ _ HN1.out).mono ?_; rintro e w' ⟨rfl, rfl⟩))
      go_roundg (gk - 1)
      case measure => have := HJ.out; omega
      case rel => exact ⟨1, by have := HJ.out; omega, rfl, rfl⟩
    · go_wp2_with (first
        | (go_at_call 20; refine (uint_any _ _ HN2.out).mono ?_; rintro e w' ⟨rfl, rfl⟩)
        | (go_at_call 21; refine (byte_any _ _ HN2.out).mono ?_; rintro e w' ⟨rfl, rfl⟩)
        | (go_at_call 22; refine (text_any _ _ _ HN2.out).mono ?_; rintro e w' ⟨rfl, rfl⟩)
        | (go_at_call 23; refine (end_any _ _ HN2.out).mono ?_; rintro e w' ⟨rfl, rfl⟩)
        | (go_at_call 24; refine (left_any _ _ HN2.out).mono ?_; rintro e w' ⟨rfl, rfl⟩))
      go_roundg (gk - 1)
      case measure => have := HJ.out; omega
      case rel => exact ⟨2, by have := HJ.out; omega, rfl, rfl⟩
    · go_wp2_with (first
        | (go_at_call 25; refine (over1 _).mono ?_; rintro e w1 ⟨b, a, c, rfl, hb, hup⟩
           have h0 := hb.cell 0; have h1 := hb.cell 1; have h2 := hb.cell 2; have HUP := Lib.hid hup; clear hb hup)
        | (go_at_call 24; refine (left1 _ b a c h0 h1 h2).mono ?_; rintro e wz ⟨rfl, hu⟩; have HUZ := Lib.hid hu; clear hu))
      go_ret
      exact ⟨rfl, ((HU.out.alloc _).trans HUP.out (fun _ f _ => f)).trans HUZ.out (fun _ f _ => f)⟩

set_option maxRecDepth 100000 in
theorem lawWalk (cond : (H : Type) → List (DataW H) → Prop) : LawWalk 5 Try.f5 cond [] := by
  intro H enc W args ds ps hval hA hfit _ _
  rw [Try.params5] at hA hval hfit
  obtain ⟨v0, vs0, d0, ds0, p0, q0, hargs, rfl, rfl, h0, r0⟩ := trodAll_cons hA
  obtain ⟨rfl, rfl, rfl⟩ := trodAll_nil r0
  obtain rfl : args = #[v0] := by cases args; simp_all
  obtain ⟨base, hok⟩ := hval 0 _ v0 rfl rfl
  obtain ⟨i, rfl, _⟩ := open_int Try.underlying3 hok h0
  exact walk W i

noncomputable def laidWorld (os : Os) : World := World.holding Try.prog os ⟨#[], #[], []⟩
theorem reads (os : Os) {H : Type} (enc : TypeId × Value → H) : ∃ places, DataW.whole enc Try.prog ((laidWorld os).forCall (fun _ _ => 0) ⟨#[], #[.int .i64 0], []⟩).memory Try.f5.params.toList Rows.wireNobodySpec.vars false (#[.int .i64 0] : Array Value).toList 8 = some ([.lit (.int .i64 0)], [], places) :=
  ⟨[], by kernel_rfl⟩

set_option maxRecDepth 100000 in
theorem lifted (os : Os) (started : os.Started) (H : Type) (enc : TypeId × Value → H) (F : Stop.Interp) :
    ReturnsInHanded {} Try.checked os 5 .any ((OpenSpec.ofChange Rows.wireNobodySpec).preRow enc Try.prog Try.f5 Rows.wireNobodyRow.domain false Rows.wireNobodyRow.laid) (((OpenSpec.ofChange Rows.wireNobodySpec).at F).post enc Try.prog Try.f5 false true false false) := by
  obtain ⟨places, hx⟩ := reads os enc
  refine returnsInHanded_of_row (C := Try.checked) (s := OpenSpec.ofChange Rows.wireNobodySpec) own started (by kernel_rfl) Try.func5
    (witness_row_at (enc := enc) (C := Try.checked) false (laidWorld os) #[.int .i64 0] rfl (by kernel_rfl) (by kernel_rfl) (by kernel_rfl)
      (OpenSpec.preRow_of_cond 8 hx (by kernel_rfl) (fun k hk => by cases hk) (by kernel_rfl) (laidMet_of_run' 8 (by kernel_rfl) (by kernel_rfl)))) ?_
  intro W base args ds gs before hval hW _ hk hsz hL _ _
  exact law_contract (k := (OpenSpec.ofChange Rows.wireNobodySpec).cond) (lawWalk (fun _ _ => True)) (fun H ds h => trivial) (by decide +kernel) rfl rfl (fun H ds hd => by
    match ds, hd with
    | [_], _ => rfl) W base args ds gs before hval hW hk hsz hL

theorem said : Rows.WireNobodySaid :=
  OpenClaim.holds_of_cond 5 Try.f5 rfl rfl rfl rfl rfl rfl rfl ⟨rfl, rfl, rfl, rfl, rfl⟩ rfl rfl rfl rfl rfl (by kernel_rfl) Try.func5 (by kernel_rfl)
    (of_decide_eq_true (by kernel_rfl)) (by unfold Func.isWrapper; first | (rw [if_pos (by decide +kernel)]; kernel_rfl) | (rw [if_neg (by decide +kernel)]; exact ⟨rfl, rfl⟩))
    (fun os started H enc _ F => by rw [OpenClaim.pre_eq_preRow]; exact lifted os started H enc F)
#print axioms said
end Go.Proofs.Ytbaombnnagidcaa.wireNobody
