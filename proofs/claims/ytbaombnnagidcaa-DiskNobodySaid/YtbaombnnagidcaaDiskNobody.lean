/- DiskNobody: a disk that no call made answers as the document says; for every integer. -/
import Derived.Test.YtbaombnnagidcaaDiskNew
import Derived.Test.YtbaombnnagidcaaClose
namespace Go.Proofs.Ytbaombnnagidcaa.diskNobody
open Go.RowKit Go.Deep Go.WideShapes Go.ChangeShapes Go.ChangeAt

/-- nil, or a disk of no sectors -/
def Nob (w : World) (p : Option Addr) : Prop := p = none ∨ ∃ b, p = some ⟨b, 0, none⟩ ∧ w.cell? ⟨b, 0, none⟩ = some (.slice none 0 0) ∧ w.cell? ⟨b, 1, none⟩ = some (.slice none 0 0)
theorem Nob.keep {w w' : World} {p : Option Addr} (h : Nob w p) (u : Upd Nil w w') : Nob w' p := by
  rcases h with rfl | ⟨b, rfl, h0, h1⟩
  · exact .inl rfl
  · exact .inr ⟨b, rfl, u.cell h0 (fun f => f), u.cell h1 (fun f => f)⟩

theorem nob_Sectors (w : World) (p : Option Addr) (h : Nob w p) : Calls Try.prog 41 #[.pointer p] w fun e w' => e = .returned (.int .i64 0) ∧ w = w' := by
  rcases h with rfl | ⟨b, rfl, h0, h1⟩
  · go_enter Try.func41, Try.ntmps41
    go_wp2
    go_ret
    exact ⟨rfl, rfl⟩
  · go_enter Try.func41, Try.ntmps41
    go_wp2
    go_ret
    exact ⟨rfl, rfl⟩
theorem nob_look (w : World) (p : Option Addr) (i : Int) (h : Nob w p) : Calls Try.prog 59 #[.pointer p, .int .i64 i] w fun e w' => e = .returned (.int .i64 2) ∧ w = w' := by
  have H0 := Lib.hid (nob_Sectors w p h)
  rcases h with rfl | ⟨b, rfl, h0, h1⟩
  · go_enter Try.func59, Try.ntmps59
    go_wp2_with (first
      | (go_at_call 41; refine H0.out.mono ?_; rintro e w' ⟨rfl, rfl⟩))
    go_ret
    exact ⟨rfl, rfl⟩
  · go_enter Try.func59, Try.ntmps59
    go_wp2_with (first
      | (go_at_call 41; refine H0.out.mono ?_; rintro e w' ⟨rfl, rfl⟩))
    go_ret
    exact ⟨rfl, rfl⟩
theorem nob_Write (w : World) (p : Option Addr) (i : Int) (a : Option Addr) (n c : Nat) (h : Nob w p) : Calls Try.prog 39 #[.pointer p, .int .i64 i, .slice a n c] w fun e w' => e = .returned (.int .i64 2) ∧ w = w' := by
  have H0 := Lib.hid (nob_look w p i h)
  rcases h with rfl | ⟨b, rfl, h0, h1⟩
  · go_enter Try.func39, Try.ntmps39
    go_wp2_with (first
      | (go_at_call 59; refine H0.out.mono ?_; rintro e w' ⟨rfl, rfl⟩))
    go_ret
    exact ⟨rfl, rfl⟩
  · go_enter Try.func39, Try.ntmps39
    go_wp2_with (first
      | (go_at_call 59; refine H0.out.mono ?_; rintro e w' ⟨rfl, rfl⟩))
    go_ret
    exact ⟨rfl, rfl⟩
theorem nob_Flush (w : World) (p : Option Addr) (h : Nob w p) : Calls Try.prog 40 #[.pointer p] w fun e w' => e = .returned (.int .i64 2) ∧ w = w' := by
  have H0 := Lib.hid (nob_Sectors w p h)
  rcases h with rfl | ⟨b, rfl, h0, h1⟩
  · go_enter Try.func40, Try.ntmps40
    go_wp2_with (first
      | (go_at_call 41; refine H0.out.mono ?_; rintro e w' ⟨rfl, rfl⟩))
    go_ret
    exact ⟨rfl, rfl⟩
  · go_enter Try.func40, Try.ntmps40
    go_wp2_with (first
      | (go_at_call 41; refine H0.out.mono ?_; rintro e w' ⟨rfl, rfl⟩))
    go_ret
    exact ⟨rfl, rfl⟩
theorem nob_Crash (w : World) (p : Option Addr) (h : Nob w p) : Calls Try.prog 37 #[.pointer p, .slice none 0 0] w fun e w' => e = .returned (.int .i64 2) ∧ w = w' := by
  have H0 := Lib.hid (nob_Sectors w p h)
  rcases h with rfl | ⟨b, rfl, h0, h1⟩
  · go_enter Try.func37, Try.ntmps37
    go_wp2_with (first
      | (go_at_call 41; refine H0.out.mono ?_; rintro e w' ⟨rfl, rfl⟩))
    go_ret
    exact ⟨rfl, rfl⟩
  · go_enter Try.func37, Try.ntmps37
    go_wp2_with (first
      | (go_at_call 41; refine H0.out.mono ?_; rintro e w' ⟨rfl, rfl⟩))
    go_ret
    exact ⟨rfl, rfl⟩
theorem nob_Copy (w : World) (p : Option Addr) (h : Nob w p) : Calls Try.prog 42 #[.pointer p] w fun e w' => e = .returned (.pointer none) ∧ w = w' := by
  have H0 := Lib.hid (nob_Sectors w p h)
  rcases h with rfl | ⟨b, rfl, h0, h1⟩
  · go_enter Try.func42, Try.ntmps42
    go_wp2_with (first
      | (go_at_call 41; refine H0.out.mono ?_; rintro e w' ⟨rfl, rfl⟩))
    go_ret
    exact ⟨rfl, rfl⟩
  · go_enter Try.func42, Try.ntmps42
    go_wp2_with (first
      | (go_at_call 41; refine H0.out.mono ?_; rintro e w' ⟨rfl, rfl⟩))
    go_ret
    exact ⟨rfl, rfl⟩

/-- Read lays boxes of its own: only new blocks turn. -/
theorem nob_Read (w : World) (p : Option Addr) (i : Int) (h : Nob w p) : Calls Try.prog 38 #[.pointer p, .int .i64 i] w fun e w' => e = .returned (.tuple #[.slice none 0 0, .int .i64 2]) ∧ Upd Nil w w' := by
  obtain ⟨W0, hW0⟩ : ∃ W0, ((w.alloc (.cells #[.int .i64 i] 3)).alloc (.cells #[.slice none 0 0] 25)).alloc (.cells #[.int .i64 0] 26) = W0 := ⟨_, rfl⟩
  have hu : Upd Nil w W0 := by rw [← hW0]; exact (((Upd.refl Nil w).alloc _).alloc _).alloc _
  have H0 := Lib.hid (nob_look W0 p i (h.keep hu))
  have HU := Lib.hid hu
  have b0 : Blk W0 w.heap.size 3 #[.int .i64 i] := by rw [← hW0]; exact ((Blk.new w _ _).alloc _).alloc _
  have b1 : Blk W0 (w.heap.size + 1) 25 #[.slice none 0 0] := by rw [← hW0]; have := Blk.new (w.alloc (.cells #[.int .i64 i] 3)) 25 #[.slice none 0 0]; rw [World.size_alloc] at this; exact this.alloc _
  have b2 : Blk W0 (w.heap.size + 2) 26 #[.int .i64 0] := by rw [← hW0]; have := Blk.new ((w.alloc (.cells #[.int .i64 i] 3)).alloc (.cells #[.slice none 0 0] 25)) 26 #[.int .i64 0]; rw [World.size_alloc, World.size_alloc] at this; exact this
  have c0 : W0.cell? ⟨w.heap.size, 0, none⟩ = some (.int .i64 i) := b0.cell 0
  have c1 : W0.cell? ⟨w.heap.size + 1, 0, none⟩ = some (.slice none 0 0) := b1.cell 0
  have c2 : W0.cell? ⟨w.heap.size + 2, 0, none⟩ = some (.int .i64 0) := b2.cell 0
  have f1 := b1.frozen 0
  have f2 := b2.frozen 0
  clear b0 b1 b2
  clear h
  go_enter Try.func38, Try.ntmps38
  go_wp2_with (go_at_call 59; refine H0.out.mono ?_; rintro e w' ⟨rfl, rfl⟩)
  refine bodyPost_ret (results_cells2 (u := .slice none 0 0) (v := .int .i64 2) rfl rfl rfl (by kernel_rfl) (by kernel_rfl) ?_ ?_) rfl ?_
  · simp [go_sem, c1]
  · simp [go_sem, c2]
  · exact ⟨rfl, (HU.out.setCell (p := ⟨w.heap.size + 1, 0, none⟩) (.inr (by simp)) _).setCell (p := ⟨w.heap.size + 2, 0, none⟩) (.inr (by simp)) _⟩

theorem nob_image (w : World) (b : Nat) (h0 : w.cell? ⟨b, 0, none⟩ = some (.slice none 0 0)) : Calls Try.prog 57 #[.pointer (some ⟨b, 0, none⟩)] w fun e w' => e = .returned (.slice none 0 0) ∧ w = w' := by
  go_enter Try.func57, Try.ntmps57
  go_wp2
  go_loopg [3, 11] 0 (fun k v i wr => v = .slice none 0 0 ∧ i = .int .i64 ((0 : Nat) : Int) ∧ w = wr)
  case atStart => exact ⟨rfl, rfl, rfl⟩
  case round =>
    obtain ⟨rfl, rfl, rfl⟩ := hrel
    go_wp2
    go_ret
    exact ⟨rfl, rfl⟩
theorem nob_Image (w : World) (p : Option Addr) (h : Nob w p) : Calls Try.prog 35 #[.pointer p] w fun e w' => e = .returned (.slice none 0 0) ∧ w = w' := by
  rcases h with rfl | ⟨b, rfl, h0, h1⟩
  · go_enter Try.func35, Try.ntmps35
    go_wp2
    go_ret
    exact ⟨rfl, rfl⟩
  · have H0 := Lib.hid (nob_image w b h0)
    go_enter Try.func35, Try.ntmps35
    go_wp2_with (go_at_call 57; refine H0.out.mono ?_; rintro e w' ⟨rfl, rfl⟩)
    go_ret
    exact ⟨rfl, rfl⟩
theorem nob_Pending (w : World) (p : Option Addr) (h : Nob w p) : Calls Try.prog 36 #[.pointer p] w fun e w' => e = .returned (.slice none 0 0) ∧ w = w' := by
  rcases h with rfl | ⟨b, rfl, h0, h1⟩
  · go_enter Try.func36, Try.ntmps36
    go_wp2
    go_ret
    exact ⟨rfl, rfl⟩
  · go_enter Try.func36, Try.ntmps36
    go_wp2
    go_loopg [3, 13] 0 (fun k v i wr => v = .slice none 0 0 ∧ i = .int .i64 ((0 : Nat) : Int) ∧ w = wr)
    case atStart => exact ⟨rfl, rfl, rfl⟩
    case round =>
      obtain ⟨rfl, rfl, rfl⟩ := hrel
      go_wp2
      go_ret
      exact ⟨rfl, rfl⟩

set_option maxRecDepth 100000 in
set_option maxHeartbeats 4000000 in
theorem walk (w : World) (i : Int) : Calls Try.prog 8 #[.int .i64 i] w fun e w' => e = .returned (.bool true) ∧ Upd Nil w w' := by
  have hmk := makeBytes (n := 128) (z := 128) rfl (by omega)
  go_enter Try.func8, Try.ntmps8
  go_wp2
  obtain ⟨W2, hW2⟩ : ∃ W2, (w.alloc (.cells #[.slice none 0 0, .slice none 0 0] 78)).alloc (.cells #[.pointer none, .pointer (some ⟨w.heap.size, 0, none⟩)] 66) = W2 := ⟨_, rfl⟩
  have hu2 : Upd Nil w W2 := by rw [← hW2]; exact ((Upd.refl Nil w).alloc _).alloc _
  have e0 : W2.cell? ⟨w.heap.size + 1, 0, none⟩ = some (.pointer none) := by rw [← hW2]; simp [go_sem]
  have e1 : W2.cell? ⟨w.heap.size + 1, 1, none⟩ = some (.pointer (some ⟨w.heap.size, 0, none⟩)) := by rw [← hW2]; simp [go_sem]
  have e2 : W2.cell? ⟨w.heap.size, 1, none⟩ = some (.slice none 0 0) := by rw [← hW2]; simp [go_sem]
  have e3 : W2.cell? ⟨w.heap.size, 0, none⟩ = some (.slice none 0 0) := by rw [← hW2]; simp [go_sem]
  rw [hW2]
  have HN2 := Lib.hid (show Nob W2 (some ⟨w.heap.size, 0, none⟩) from .inr ⟨_, rfl, e3, e2⟩)
  have HU := Lib.hid hu2
  have E0 := Lib.hid e0
  have E1 := Lib.hid e1
  clear hu2 hW2 e0 e1 e2 e3
  go_loopg [13] 2 (fun k i wr => ∃ j : Nat, j + k = 2 ∧ i = .int .i64 j ∧ Upd Nil W2 wr)
  case atStart => exact ⟨0, rfl, rfl, Upd.refl _ _⟩
  case round =>
    obtain ⟨j, hj, rfl, hur⟩ := hrel
    have hj3 : j = 0 ∨ j = 1 ∨ j = 2 := by omega
    have HJ := Lib.hid hj
    have HUr := Lib.hid hur
    have d0 := hur.cell E0.out (fun f => f)
    have d1 := hur.cell E1.out (fun f => f)
    clear hj hur
    rcases hj3 with rfl | rfl | rfl
    · clear d1
      have HN := Lib.hid (show Nob wr none from .inl rfl)
      go_wp2_with (first
        | (go_at_call 38; refine (nob_Read _ _ _ HN.out).mono ?_; rintro e w1 ⟨rfl, hu⟩; have HU1 := Lib.hid hu; have HN1 := Lib.hid (HN.out.keep hu); clear hu)
        | (go_at_call 39; refine (nob_Write _ _ _ _ _ _ (HN1.out.keep ((Upd.refl Nil w1).alloc _))).mono ?_; rintro e w' ⟨rfl, rfl⟩)
        | (go_at_call 40; refine (nob_Flush _ _ (HN1.out.keep ((Upd.refl Nil w1).alloc _))).mono ?_; rintro e w' ⟨rfl, rfl⟩)
        | (go_at_call 37; refine (nob_Crash _ _ (HN1.out.keep ((Upd.refl Nil w1).alloc _))).mono ?_; rintro e w' ⟨rfl, rfl⟩)
        | (go_at_call 41; refine (nob_Sectors _ _ (HN1.out.keep ((Upd.refl Nil w1).alloc _))).mono ?_; rintro e w' ⟨rfl, rfl⟩)
        | (go_at_call 36; refine (nob_Pending _ _ (HN1.out.keep ((Upd.refl Nil w1).alloc _))).mono ?_; rintro e w' ⟨rfl, rfl⟩)
        | (go_at_call 35; refine (nob_Image _ _ (HN1.out.keep ((Upd.refl Nil w1).alloc _))).mono ?_; rintro e w' ⟨rfl, rfl⟩)
        | (go_at_call 42; refine (nob_Copy _ _ (HN1.out.keep ((Upd.refl Nil w1).alloc _))).mono ?_; rintro e w' ⟨rfl, rfl⟩))
      go_roundg (gk - 1)
      case measure => have := HJ.out; omega
      case rel => exact ⟨1, by have := HJ.out; omega, rfl, (HUr.out.trans HU1.out (fun _ f _ => f)).alloc _⟩
    · clear d0
      have HN := Lib.hid (HN2.out.keep HUr.out)
      go_wp2_with (first
        | (go_at_call 38; refine (nob_Read _ _ _ HN.out).mono ?_; rintro e w1 ⟨rfl, hu⟩; have HU1 := Lib.hid hu; have HN1 := Lib.hid (HN.out.keep hu); clear hu)
        | (go_at_call 39; refine (nob_Write _ _ _ _ _ _ (HN1.out.keep ((Upd.refl Nil w1).alloc _))).mono ?_; rintro e w' ⟨rfl, rfl⟩)
        | (go_at_call 40; refine (nob_Flush _ _ (HN1.out.keep ((Upd.refl Nil w1).alloc _))).mono ?_; rintro e w' ⟨rfl, rfl⟩)
        | (go_at_call 37; refine (nob_Crash _ _ (HN1.out.keep ((Upd.refl Nil w1).alloc _))).mono ?_; rintro e w' ⟨rfl, rfl⟩)
        | (go_at_call 41; refine (nob_Sectors _ _ (HN1.out.keep ((Upd.refl Nil w1).alloc _))).mono ?_; rintro e w' ⟨rfl, rfl⟩)
        | (go_at_call 36; refine (nob_Pending _ _ (HN1.out.keep ((Upd.refl Nil w1).alloc _))).mono ?_; rintro e w' ⟨rfl, rfl⟩)
        | (go_at_call 35; refine (nob_Image _ _ (HN1.out.keep ((Upd.refl Nil w1).alloc _))).mono ?_; rintro e w' ⟨rfl, rfl⟩)
        | (go_at_call 42; refine (nob_Copy _ _ (HN1.out.keep ((Upd.refl Nil w1).alloc _))).mono ?_; rintro e w' ⟨rfl, rfl⟩))
      go_roundg (gk - 1)
      case measure => have := HJ.out; omega
      case rel => exact ⟨2, by have := HJ.out; omega, rfl, (HUr.out.trans HU1.out (fun _ f _ => f)).alloc _⟩
    · clear d0 d1
      go_wp2_with (first
        | (go_at_call 43; refine (disk_New_yes _ (n := 2) (by decide) (by decide)).mono ?_; rintro e w1 ⟨s, F, rfl, hb, _, hu⟩; have HB := Lib.hid hb; have HUn := Lib.hid hu; clear hb hu)
        | (go_at_call 41; refine (disk_Sectors _ HB.out).mono ?_; rintro e w' ⟨rfl, rfl⟩))
      go_ret
      exact ⟨rfl, (HU.out.trans HUr.out (fun _ f _ => f)).trans HUn.out (fun _ f _ => f)⟩

set_option maxRecDepth 100000 in
theorem lawWalk (cond : (H : Type) → List (DataW H) → Prop) : LawWalk 8 Try.f8 cond [] := by
  intro H enc W args ds ps hval hA hfit _ _
  rw [Try.params8] at hA hval hfit
  obtain ⟨v0, vs0, d0, ds0, p0, q0, hargs, rfl, rfl, h0, r0⟩ := trodAll_cons hA
  obtain ⟨rfl, rfl, rfl⟩ := trodAll_nil r0
  obtain rfl : args = #[v0] := by cases args; simp_all
  obtain ⟨base, hok⟩ := hval 0 _ v0 rfl rfl
  obtain ⟨i, rfl, _⟩ := open_int Try.underlying3 hok h0
  exact walk W i

noncomputable def laidWorld (os : Os) : World := World.holding Try.prog os ⟨#[], #[], []⟩
theorem reads (os : Os) {H : Type} (enc : TypeId × Value → H) : ∃ places, DataW.whole enc Try.prog ((laidWorld os).forCall (fun _ _ => 0) ⟨#[], #[.int .i64 0], []⟩).memory Try.f8.params.toList Rows.diskNobodySpec.vars false (#[.int .i64 0] : Array Value).toList 8 = some ([.lit (.int .i64 0)], [], places) :=
  ⟨[], by kernel_rfl⟩

set_option maxRecDepth 100000 in
theorem lifted (os : Os) (started : os.Started) (H : Type) (enc : TypeId × Value → H) (F : Stop.Interp) :
    ReturnsInHanded {} Try.checked os 8 .any ((OpenSpec.ofChange Rows.diskNobodySpec).preRow enc Try.prog Try.f8 Rows.diskNobodyRow.domain false Rows.diskNobodyRow.laid) (((OpenSpec.ofChange Rows.diskNobodySpec).at F).post enc Try.prog Try.f8 false true false false) := by
  obtain ⟨places, hx⟩ := reads os enc
  refine returnsInHanded_of_row (C := Try.checked) (s := OpenSpec.ofChange Rows.diskNobodySpec) own started (by kernel_rfl) Try.func8
    (witness_row_at (enc := enc) (C := Try.checked) false (laidWorld os) #[.int .i64 0] rfl (by kernel_rfl) (by kernel_rfl) (by kernel_rfl)
      (OpenSpec.preRow_of_cond 8 hx (by kernel_rfl) (fun k hk => by cases hk) (by kernel_rfl) (laidMet_of_run' 8 (by kernel_rfl) (by kernel_rfl)))) ?_
  intro W base args ds gs before hval hW _ hk hsz hL _ _
  exact law_contract (k := (OpenSpec.ofChange Rows.diskNobodySpec).cond) (lawWalk (fun _ _ => True)) (fun H ds h => trivial) (by decide +kernel) rfl rfl (fun H ds hd => by
    match ds, hd with
    | [_], _ => rfl) W base args ds gs before hval hW hk hsz hL

theorem said : Rows.DiskNobodySaid :=
  OpenClaim.holds_of_cond 8 Try.f8 rfl rfl rfl rfl rfl rfl rfl ⟨rfl, rfl, rfl, rfl, rfl⟩ rfl rfl rfl rfl rfl (by kernel_rfl) Try.func8 (by kernel_rfl)
    (of_decide_eq_true (by kernel_rfl)) (by unfold Func.isWrapper; first | (rw [if_pos (by decide +kernel)]; kernel_rfl) | (rw [if_neg (by decide +kernel)]; exact ⟨rfl, rfl⟩))
    (fun os started H enc _ F => by rw [OpenClaim.pre_eq_preRow]; exact lifted os started H enc F)
#print axioms said
end Go.Proofs.Ytbaombnnagidcaa.diskNobody
