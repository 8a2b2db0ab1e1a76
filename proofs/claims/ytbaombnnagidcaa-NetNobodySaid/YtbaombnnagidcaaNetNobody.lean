/- NetNobody: a net that no call made answers as the document says; for every integer. -/
import Derived.Test.YtbaombnnagidcaaNetAny
import Derived.Test.YtbaombnnagidcaaClose
namespace Go.Proofs.Ytbaombnnagidcaa.netNobody
open Go.RowKit Go.Deep Go.WideShapes Go.ChangeShapes Go.ChangeAt

/-- nil, or an empty net whose mark says that no call made it -/
def Nob (w : World) (p : Option Addr) : Prop := p = none ∨ ∃ b, p = some ⟨b, 0, none⟩ ∧ w.cell? ⟨b, 0, none⟩ = some (.slice none 0 0) ∧ w.cell? ⟨b, 1, none⟩ = some (.bool false)

theorem nob_look (w : World) (p : Option Addr) (i : Int) (h : Nob w p) : Calls Try.prog 49 #[.pointer p, .int .i64 i] w fun e w' => e = .returned (.int .i64 2) ∧ w = w' := by
  skip
  rcases h with rfl | ⟨b, rfl, h0, h1⟩
  · go_enter Try.func49, Try.ntmps49
    go_wp2
    go_ret
    exact ⟨rfl, rfl⟩
  · go_enter Try.func49, Try.ntmps49
    go_wp2
    go_ret
    exact ⟨rfl, rfl⟩
theorem nob_Send (w : World) (p : Option Addr) (h : Nob w p) : Calls Try.prog 13 #[.pointer p, .slice none 0 0] w fun e w' => e = .returned (.int .i64 2) ∧ w = w' := by
  skip
  rcases h with rfl | ⟨b, rfl, h0, h1⟩
  · go_enter Try.func13, Try.ntmps13
    go_wp2
    go_ret
    exact ⟨rfl, rfl⟩
  · go_enter Try.func13, Try.ntmps13
    go_wp2
    go_ret
    exact ⟨rfl, rfl⟩
theorem nob_Look (w : World) (p : Option Addr) (i : Int) (h : Nob w p) : Calls Try.prog 16 #[.pointer p, .int .i64 i] w fun e w' => e = .returned (.tuple #[.slice none 0 0, .int .i64 2]) ∧ w = w' := by
  have HC := Lib.hid (nob_look w p i h)
  rcases h with rfl | ⟨b, rfl, h0, h1⟩
  · go_enter Try.func16, Try.ntmps16
    go_wp2_with (go_at_call 49; refine HC.out.mono ?_; rintro e w' ⟨rfl, rfl⟩)
    go_ret2
    exact ⟨rfl, rfl⟩
  · go_enter Try.func16, Try.ntmps16
    go_wp2_with (go_at_call 49; refine HC.out.mono ?_; rintro e w' ⟨rfl, rfl⟩)
    go_ret2
    exact ⟨rfl, rfl⟩
theorem nob_Drop (w : World) (p : Option Addr) (i : Int) (h : Nob w p) : Calls Try.prog 17 #[.pointer p, .int .i64 i] w fun e w' => e = .returned (.int .i64 2) ∧ w = w' := by
  have HC := Lib.hid (nob_look w p i h)
  rcases h with rfl | ⟨b, rfl, h0, h1⟩
  · go_enter Try.func17, Try.ntmps17
    go_wp2_with (go_at_call 49; refine HC.out.mono ?_; rintro e w' ⟨rfl, rfl⟩)
    go_ret
    exact ⟨rfl, rfl⟩
  · go_enter Try.func17, Try.ntmps17
    go_wp2_with (go_at_call 49; refine HC.out.mono ?_; rintro e w' ⟨rfl, rfl⟩)
    go_ret
    exact ⟨rfl, rfl⟩
theorem nob_Twice (w : World) (p : Option Addr) (i : Int) (h : Nob w p) : Calls Try.prog 18 #[.pointer p, .int .i64 i] w fun e w' => e = .returned (.int .i64 2) ∧ w = w' := by
  have HC := Lib.hid (nob_Look w p i h)
  rcases h with rfl | ⟨b, rfl, h0, h1⟩
  · go_enter Try.func18, Try.ntmps18
    go_wp2_with (go_at_call 16; refine HC.out.mono ?_; rintro e w' ⟨rfl, rfl⟩)
    go_ret
    exact ⟨rfl, rfl⟩
  · go_enter Try.func18, Try.ntmps18
    go_wp2_with (go_at_call 16; refine HC.out.mono ?_; rintro e w' ⟨rfl, rfl⟩)
    go_ret
    exact ⟨rfl, rfl⟩
theorem nob_Take (w : World) (p : Option Addr) (i : Int) (h : Nob w p) : Calls Try.prog 14 #[.pointer p, .int .i64 i] w fun e w' => e = .returned (.tuple #[.slice none 0 0, .int .i64 2]) ∧ w = w' := by
  have HC := Lib.hid (nob_Look w p i h)
  rcases h with rfl | ⟨b, rfl, h0, h1⟩
  · go_enter Try.func14, Try.ntmps14
    go_wp2_with (go_at_call 16; refine HC.out.mono ?_; rintro e w' ⟨rfl, rfl⟩)
    go_ret2
    exact ⟨rfl, rfl⟩
  · go_enter Try.func14, Try.ntmps14
    go_wp2_with (go_at_call 16; refine HC.out.mono ?_; rintro e w' ⟨rfl, rfl⟩)
    go_ret2
    exact ⟨rfl, rfl⟩
theorem nob_List (w : World) (p : Option Addr) (h : Nob w p) : Calls Try.prog 19 #[.pointer p] w fun e w' => e = .returned (.slice none 0 0) ∧ w = w' := by
  rcases h with rfl | ⟨b, rfl, h0, h1⟩
  · go_enter Try.func19, Try.ntmps19
    go_wp2
    go_ret
    exact ⟨rfl, rfl⟩
  · go_enter Try.func19, Try.ntmps19
    go_wp2
    go_loopg [3, 13] 0 (fun k v i wr => v = .slice none 0 0 ∧ i = .int .i64 ((0 : Nat) : Int) ∧ w = wr)
    case atStart => exact ⟨rfl, rfl, rfl⟩
    case round =>
      obtain ⟨rfl, rfl, rfl⟩ := hrel
      go_wp2
      go_ret
      exact ⟨rfl, rfl⟩

set_option maxRecDepth 100000 in
set_option maxHeartbeats 2000000 in
theorem walk (w : World) (i : Int) : Calls Try.prog 4 #[.int .i64 i] w fun e w' => e = .returned (.bool true) ∧ Upd Nil w w' := by
  go_enter Try.func4, Try.ntmps4
  go_wp2
  obtain ⟨W2, hW2⟩ : ∃ W2, (w.alloc (.cells #[.slice none 0 0, .bool false] 33)).alloc (.cells #[.pointer none, .pointer (some ⟨w.heap.size, 0, none⟩)] 23) = W2 := ⟨_, rfl⟩
  have hu2 : Upd Nil w W2 := by rw [← hW2]; exact ((Upd.refl Nil w).alloc _).alloc _
  have e0 : W2.cell? ⟨w.heap.size + 1, 0, none⟩ = some (.pointer none) := by rw [← hW2]; simp [go_sem]
  have e1 : W2.cell? ⟨w.heap.size + 1, 1, none⟩ = some (.pointer (some ⟨w.heap.size, 0, none⟩)) := by rw [← hW2]; simp [go_sem]
  have e2 : W2.cell? ⟨w.heap.size, 1, none⟩ = some (.bool false) := by rw [← hW2]; simp [go_sem]
  have e3 : W2.cell? ⟨w.heap.size, 0, none⟩ = some (.slice none 0 0) := by rw [← hW2]; simp [go_sem]
  rw [hW2]
  have hn1 : Nob W2 none := .inl rfl
  have hn2 : Nob W2 (some ⟨w.heap.size, 0, none⟩) := .inr ⟨_, rfl, e3, e2⟩
  have HN1 := Lib.hid hn1
  have HN2 := Lib.hid hn2
  have HU := Lib.hid hu2
  clear hn1 hn2 hu2 hW2 e2 e3
  go_loopg [14] 2 (fun k i wr => ∃ j : Nat, j + k = 2 ∧ i = .int .i64 j ∧ W2 = wr)
  case atStart => exact ⟨0, rfl, rfl, rfl⟩
  case round =>
    obtain ⟨j, hj, rfl, rfl⟩ := hrel
    have hj3 : j = 0 ∨ j = 1 ∨ j = 2 := by omega
    have HJ := Lib.hid hj
    clear hj
    rcases hj3 with rfl | rfl | rfl
    · go_wp2_with (first
        | (go_at_call 14; refine (nob_Take _ _ _ HN1.out).mono ?_; rintro e w' ⟨rfl, rfl⟩)
        | (go_at_call 16; refine (nob_Look _ _ _ HN1.out).mono ?_; rintro e w' ⟨rfl, rfl⟩)
        | (go_at_call 13; refine (nob_Send _ _ HN1.out).mono ?_; rintro e w' ⟨rfl, rfl⟩)
        | (go_at_call 17; refine (nob_Drop _ _ _ HN1.out).mono ?_; rintro e w' ⟨rfl, rfl⟩)
        | (go_at_call 18; refine (nob_Twice _ _ _ HN1.out).mono ?_; rintro e w' ⟨rfl, rfl⟩)
        | (go_at_call 19; refine (nob_List _ _ HN1.out).mono ?_; rintro e w' ⟨rfl, rfl⟩))
      go_roundg (gk - 1)
      case measure => have := HJ.out; omega
      case rel => exact ⟨1, by have := HJ.out; omega, rfl, rfl⟩
    · go_wp2_with (first
        | (go_at_call 14; refine (nob_Take _ _ _ HN2.out).mono ?_; rintro e w' ⟨rfl, rfl⟩)
        | (go_at_call 16; refine (nob_Look _ _ _ HN2.out).mono ?_; rintro e w' ⟨rfl, rfl⟩)
        | (go_at_call 13; refine (nob_Send _ _ HN2.out).mono ?_; rintro e w' ⟨rfl, rfl⟩)
        | (go_at_call 17; refine (nob_Drop _ _ _ HN2.out).mono ?_; rintro e w' ⟨rfl, rfl⟩)
        | (go_at_call 18; refine (nob_Twice _ _ _ HN2.out).mono ?_; rintro e w' ⟨rfl, rfl⟩)
        | (go_at_call 19; refine (nob_List _ _ HN2.out).mono ?_; rintro e w' ⟨rfl, rfl⟩))
      go_roundg (gk - 1)
      case measure => have := HJ.out; omega
      case rel => exact ⟨2, by have := HJ.out; omega, rfl, rfl⟩
    · go_wp2_with (first
        | (go_at_call 12; refine (net_New _).mono ?_; rintro e w1 ⟨rfl, rfl⟩; have HB := Lib.hid ((Bag.new 33 [.bool true] W2).upd ((Upd.refl Nil _).alloc (.cells #[.int .u8 1] 5)) (fun _ _ f => f))
           have hrow : Row (One (W2.heap.size + 1)) ((W2.alloc (.cells #[.slice none 0 0, .bool true] 33)).alloc (.cells #[.int .u8 1] 5)) (some ⟨W2.heap.size + 1, 0, none⟩) (bvs [1]) := by
             have := one_row (W2.alloc (.cells #[.slice none 0 0, .bool true] 33)) (.int .u8 1) 5
             simpa [bvs, bv] using this
           have HRW := Lib.hid hrow; clear hrow)
        | (go_at_call 13; refine (net_send _ HB.out 1 (xs := [1]) HRW.out (by decide) (by decide)).mono ?_; rintro e w2 ⟨rfl, F', hb, hu, hF⟩; have HB2 := Lib.hid hb; have HU2 := Lib.hid hu; clear hb hu hF)
        | (go_at_call 19; refine (net_List _ HB2.out (by decide) (by decide)).mono ?_; rintro e w3 ⟨R3, E3, a3, c3, vs3, rfl, hrows, _, _, hul⟩; have HU3 := Lib.hid hul; clear hrows hul))
      go_ret
      refine ⟨rfl, ((((HU.out.alloc _).alloc _).trans HU2.out (fun k f hk => ?_))).trans HU3.out (fun _ f _ => f)⟩
      have h1 : k = W2.heap.size := f
      have := HU.out.size
      omega

set_option maxRecDepth 100000 in
theorem lawWalk (cond : (H : Type) → List (DataW H) → Prop) : LawWalk 4 Try.f4 cond [] := by
  intro H enc W args ds ps hval hA hfit _ _
  rw [Try.params4] at hA hval hfit
  obtain ⟨v0, vs0, d0, ds0, p0, q0, hargs, rfl, rfl, h0, r0⟩ := trodAll_cons hA
  obtain ⟨rfl, rfl, rfl⟩ := trodAll_nil r0
  obtain rfl : args = #[v0] := by cases args; simp_all
  obtain ⟨base, hok⟩ := hval 0 _ v0 rfl rfl
  obtain ⟨i, rfl, _⟩ := open_int Try.underlying3 hok h0
  exact walk W i

noncomputable def laidWorld (os : Os) : World := World.holding Try.prog os ⟨#[], #[], []⟩
theorem reads (os : Os) {H : Type} (enc : TypeId × Value → H) : ∃ places, DataW.whole enc Try.prog ((laidWorld os).forCall (fun _ _ => 0) ⟨#[], #[.int .i64 0], []⟩).memory Try.f4.params.toList Rows.netNobodySpec.vars false (#[.int .i64 0] : Array Value).toList 8 = some ([.lit (.int .i64 0)], [], places) :=
  ⟨[], by kernel_rfl⟩

set_option maxRecDepth 100000 in
theorem lifted (os : Os) (started : os.Started) (H : Type) (enc : TypeId × Value → H) (F : Stop.Interp) :
    ReturnsInHanded {} Try.checked os 4 .any ((OpenSpec.ofChange Rows.netNobodySpec).preRow enc Try.prog Try.f4 Rows.netNobodyRow.domain false Rows.netNobodyRow.laid) (((OpenSpec.ofChange Rows.netNobodySpec).at F).post enc Try.prog Try.f4 false true false false) := by
  obtain ⟨places, hx⟩ := reads os enc
  refine returnsInHanded_of_row (C := Try.checked) (s := OpenSpec.ofChange Rows.netNobodySpec) own started (by kernel_rfl) Try.func4
    (witness_row_at (enc := enc) (C := Try.checked) false (laidWorld os) #[.int .i64 0] rfl (by kernel_rfl) (by kernel_rfl) (by kernel_rfl)
      (OpenSpec.preRow_of_cond 8 hx (by kernel_rfl) (fun k hk => by cases hk) (by kernel_rfl) (laidMet_of_run' 8 (by kernel_rfl) (by kernel_rfl)))) ?_
  intro W base args ds gs before hval hW _ hk hsz hL _ _
  exact law_contract (k := (OpenSpec.ofChange Rows.netNobodySpec).cond) (lawWalk (fun _ _ => True)) (fun H ds h => trivial) (by decide +kernel) rfl rfl (fun H ds hd => by
    match ds, hd with
    | [_], _ => rfl) W base args ds gs before hval hW hk hsz hL

theorem said : Rows.NetNobodySaid :=
  OpenClaim.holds_of_cond 4 Try.f4 rfl rfl rfl rfl rfl rfl rfl ⟨rfl, rfl, rfl, rfl, rfl⟩ rfl rfl rfl rfl rfl (by kernel_rfl) Try.func4 (by kernel_rfl)
    (of_decide_eq_true (by kernel_rfl)) (by unfold Func.isWrapper; first | (rw [if_pos (by decide +kernel)]; kernel_rfl) | (rw [if_neg (by decide +kernel)]; exact ⟨rfl, rfl⟩))
    (fun os started H enc _ F => by rw [OpenClaim.pre_eq_preRow]; exact lifted os started H enc F)
#print axioms said
end Go.Proofs.Ytbaombnnagidcaa.netNobody
