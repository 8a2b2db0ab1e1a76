/- LogNobody: the walk. -/
import Derived.Test.YtbaombnnagidcaaDoorLogRoom
namespace Go.Proofs.YtbaombnnagidcaaDoor.logNobody
open Go.RowKit

/-- nil, or a log of no disk -/
def Nol (w : World) (p : Option Addr) : Prop := p = none ∨ ∃ b, p = some ⟨b, 0, none⟩ ∧ w.cell? ⟨b, 0, none⟩ = some (.pointer none)
theorem Nol.keep {w w' : World} {p : Option Addr} (h : Nol w p) (u : Upd Nil w w') : Nol w' p := by
  rcases h with rfl | ⟨b, rfl, h0⟩
  · exact .inl rfl
  · exact .inr ⟨b, rfl, u.cell h0 (fun f => f)⟩
/-- nil, or a disk of no sectors -/
def Nob (w : World) (p : Option Addr) : Prop := p = none ∨ ∃ b, p = some ⟨b, 0, none⟩ ∧ w.cell? ⟨b, 0, none⟩ = some (.slice none 0 0) ∧ w.cell? ⟨b, 1, none⟩ = some (.slice none 0 0)
theorem Nob.keep {w w' : World} {p : Option Addr} (h : Nob w p) (u : Upd Nil w w') : Nob w' p := by
  rcases h with rfl | ⟨b, rfl, h0, h1⟩
  · exact .inl rfl
  · exact .inr ⟨b, rfl, u.cell h0 (fun f => f), u.cell h1 (fun f => f)⟩

theorem nol_none (w : World) (p : Option Addr) (h : Nol w p) : Calls Tryd.prog 75 #[.pointer p] w fun e w' => e = .returned (.bool true) ∧ w = w' := by
  rcases h with rfl | ⟨b, rfl, h0⟩
  · go_enter Tryd.func75, Tryd.ntmps75
    go_wp2
    go_ret
    exact ⟨rfl, rfl⟩
  · go_enter Tryd.func75, Tryd.ntmps75
    go_wp2
    go_ret
    exact ⟨rfl, rfl⟩
theorem nob_Sectors (w : World) (p : Option Addr) (h : Nob w p) : Calls Tryd.prog 39 #[.pointer p] w fun e w' => e = .returned (.int .i64 0) ∧ w = w' := by
  rcases h with rfl | ⟨b, rfl, h0, h1⟩
  · go_enter Tryd.func39, Tryd.ntmps39
    go_wp2
    go_ret
    exact ⟨rfl, rfl⟩
  · go_enter Tryd.func39, Tryd.ntmps39
    go_wp2
    go_ret
    exact ⟨rfl, rfl⟩
theorem nol_Append (w : World) (p : Option Addr) (a : Option Addr) (n c : Nat) (h : Nol w p) : Calls Tryd.prog 41 #[.pointer p, .slice a n c] w fun e w' => e = .returned (.tuple #[.int .i64 0, .int .i64 2]) ∧ w = w' := by
  have H0 := Lib.hid (nol_none w p h)
  go_enter Tryd.func41, Tryd.ntmps41
  go_wp2_with (go_at_call 75; refine H0.out.mono ?_; rintro e w' ⟨rfl, rfl⟩)
  go_ret2
  exact ⟨rfl, rfl⟩
theorem nol_Force (w : World) (p : Option Addr) (h : Nol w p) : Calls Tryd.prog 43 #[.pointer p] w fun e w' => e = .returned (.int .i64 2) ∧ w = w' := by
  have H0 := Lib.hid (nol_none w p h)
  go_enter Tryd.func43, Tryd.ntmps43
  go_wp2_with (go_at_call 75; refine H0.out.mono ?_; rintro e w' ⟨rfl, rfl⟩)
  go_ret
  exact ⟨rfl, rfl⟩
theorem nol_Reset (w : World) (p : Option Addr) (h : Nol w p) : Calls Tryd.prog 44 #[.pointer p] w fun e w' => e = .returned (.int .i64 2) ∧ w = w' := by
  have H0 := Lib.hid (nol_none w p h)
  go_enter Tryd.func44, Tryd.ntmps44
  go_wp2_with (go_at_call 75; refine H0.out.mono ?_; rintro e w' ⟨rfl, rfl⟩)
  go_ret
  exact ⟨rfl, rfl⟩
theorem nol_First (w : World) (p : Option Addr) (h : Nol w p) : Calls Tryd.prog 45 #[.pointer p] w fun e w' => e = .returned (.int .i64 0) ∧ w = w' := by
  have H0 := Lib.hid (nol_none w p h)
  go_enter Tryd.func45, Tryd.ntmps45
  go_wp2_with (go_at_call 75; refine H0.out.mono ?_; rintro e w' ⟨rfl, rfl⟩)
  go_ret
  exact ⟨rfl, rfl⟩
theorem nol_Last (w : World) (p : Option Addr) (h : Nol w p) : Calls Tryd.prog 42 #[.pointer p] w fun e w' => e = .returned (.int .i64 0) ∧ w = w' := by
  have H0 := Lib.hid (nol_none w p h)
  go_enter Tryd.func42, Tryd.ntmps42
  go_wp2_with (go_at_call 75; refine H0.out.mono ?_; rintro e w' ⟨rfl, rfl⟩)
  go_ret
  exact ⟨rfl, rfl⟩
theorem nol_Forced (w : World) (p : Option Addr) (h : Nol w p) : Calls Tryd.prog 46 #[.pointer p] w fun e w' => e = .returned (.int .i64 0) ∧ w = w' := by
  have H0 := Lib.hid (nol_none w p h)
  go_enter Tryd.func46, Tryd.ntmps46
  go_wp2_with (go_at_call 75; refine H0.out.mono ?_; rintro e w' ⟨rfl, rfl⟩)
  go_ret
  exact ⟨rfl, rfl⟩
theorem nol_Room (w : World) (p : Option Addr) (h : Nol w p) : Calls Tryd.prog 40 #[.pointer p] w fun e w' => e = .returned (.int .i64 0) ∧ w = w' := by
  have H0 := Lib.hid (nol_none w p h)
  go_enter Tryd.func40, Tryd.ntmps40
  go_wp2_with (go_at_call 75; refine H0.out.mono ?_; rintro e w' ⟨rfl, rfl⟩)
  go_ret
  exact ⟨rfl, rfl⟩

theorem nob_Open (w : World) (p : Option Addr) (i j : Int) (h : Nob w p) : Calls Tryd.prog 38 #[.pointer p, .int .i64 i, .int .i64 j] w fun e w' => e = .returned (.tuple #[.pointer none, .slice none 0 0, .int .i64 2]) ∧ w = w' := by
  have H0 := Lib.hid (nob_Sectors w p h)
  go_enter Tryd.func38, Tryd.ntmps38
  go_wp2_with (go_at_call 39; refine H0.out.mono ?_; rintro e w' ⟨rfl, rfl⟩)
  go_ret3
  exact ⟨rfl, rfl⟩

theorem openR_at {N fr n : Nat} (hn : 1 ≤ n) (h : fr + n ≤ N) : openR (List.replicate N noughts128) fr n = (0, 1, []) := by
  obtain ⟨m, rfl⟩ : ∃ m, n = m + 1 := ⟨n - 1, by omega⟩
  unfold openR
  rw [openGo]
  have e : (List.replicate N noughts128).getD (fr + 0) [] = noughts128 := by
    rw [List.getD_eq_getElem?_getD, List.getElem?_replicate, if_pos (by omega)]
    rfl
  rw [e, readSec_noughts]
theorem openS_at {N fr n : Nat} (hn : 1 ≤ n) (h : fr + n ≤ N) : openS (List.replicate N noughts128) fr n = { fr := fr, sectors := n, first := 1, last := 0, forced := 0, stream := [], durable := 0 } := by
  unfold openS
  rw [openR_at hn h, splitL_nil]
  rfl

set_option maxRecDepth 100000 in
set_option maxHeartbeats 4000000 in
theorem walk (w : World) (z0 z1 : Int) (tab : Tab w) : Calls Tryd.prog 10 #[.int .i64 z0, .int .i64 z1] w fun e w' => e = .returned (.bool true) ∧ Upd Nil w w' := by
  have HT := Lib.hid tab
  clear tab
  go_enter Tryd.func10, Tryd.ntmps10
  go_wp2
  obtain ⟨W2, hW2⟩ : ∃ W2, (w.alloc (.cells #[.pointer none, .int .i64 0, .int .i64 0, .int .i64 0, .int .i64 0, .int .i64 0, .slice none 0 0, .int .i64 0] 69)).alloc (.cells #[.pointer none, .pointer (some ⟨w.heap.size, 0, none⟩)] 63) = W2 := ⟨_, rfl⟩
  have hu2 : Upd Nil w W2 := by rw [← hW2]; exact ((Upd.refl Nil w).alloc _).alloc _
  have e0 : W2.cell? ⟨w.heap.size + 1, 0, none⟩ = some (.pointer none) := by rw [← hW2]; simp [go_sem]
  have e1 : W2.cell? ⟨w.heap.size + 1, 1, none⟩ = some (.pointer (some ⟨w.heap.size, 0, none⟩)) := by rw [← hW2]; simp [go_sem]
  have e2 : W2.cell? ⟨w.heap.size, 0, none⟩ = some (.pointer none) := by rw [← hW2]; simp [go_sem]
  rw [hW2]
  have HN2 := Lib.hid (show Nol W2 (some ⟨w.heap.size, 0, none⟩) from .inr ⟨_, rfl, e2⟩)
  have HU := Lib.hid hu2
  have E0 := Lib.hid e0
  have E1 := Lib.hid e1
  clear hu2 hW2 e0 e1 e2
  go_loopg [23] 2 (fun k i wr => ∃ j : Nat, j + k = 2 ∧ i = .int .i64 j ∧ Upd Nil W2 wr)
  case atStart => exact ⟨0, rfl, rfl, Upd.refl _ _⟩
  case round =>
    obtain ⟨j, hj, rfl, hur⟩ := hrel
    have hj3 : j = 0 ∨ j = 1 ∨ j = 2 := by omega
    have HJ := Lib.hid hj
    have HUr := Lib.hid hur
    have d0 := hur.cell E0.out (fun f => f)
    have d1 := hur.cell E1.out (fun f => f)
    clear hj hur
    rcases hj3 with rfl | rfl | rfl
    · clear d1
      have HN := Lib.hid (show Nol wr none from .inl rfl)
      go_wp2_with (first
        | (go_at_call 41; refine (nol_Append _ _ _ _ _ (HN.out.keep ((Upd.refl Nil wr).alloc _))).mono ?_; rintro e w' ⟨rfl, rfl⟩)
        | (go_at_call 43; refine (nol_Force _ _ (HN.out.keep ((Upd.refl Nil wr).alloc _))).mono ?_; rintro e w' ⟨rfl, rfl⟩)
        | (go_at_call 44; refine (nol_Reset _ _ (HN.out.keep ((Upd.refl Nil wr).alloc _))).mono ?_; rintro e w' ⟨rfl, rfl⟩)
        | (go_at_call 45; refine (nol_First _ _ (HN.out.keep ((Upd.refl Nil wr).alloc _))).mono ?_; rintro e w' ⟨rfl, rfl⟩)
        | (go_at_call 42; refine (nol_Last _ _ (HN.out.keep ((Upd.refl Nil wr).alloc _))).mono ?_; rintro e w' ⟨rfl, rfl⟩)
        | (go_at_call 46; refine (nol_Forced _ _ (HN.out.keep ((Upd.refl Nil wr).alloc _))).mono ?_; rintro e w' ⟨rfl, rfl⟩)
        | (go_at_call 40; refine (nol_Room _ _ (HN.out.keep ((Upd.refl Nil wr).alloc _))).mono ?_; rintro e w' ⟨rfl, rfl⟩))
      go_roundg (gk - 1)
      case measure => have := HJ.out; omega
      case rel => exact ⟨1, by have := HJ.out; omega, rfl, HUr.out.alloc _⟩
    · clear d0
      have HN := Lib.hid (HN2.out.keep HUr.out)
      go_wp2_with (first
        | (go_at_call 41; refine (nol_Append _ _ _ _ _ (HN.out.keep ((Upd.refl Nil wr).alloc _))).mono ?_; rintro e w' ⟨rfl, rfl⟩)
        | (go_at_call 43; refine (nol_Force _ _ (HN.out.keep ((Upd.refl Nil wr).alloc _))).mono ?_; rintro e w' ⟨rfl, rfl⟩)
        | (go_at_call 44; refine (nol_Reset _ _ (HN.out.keep ((Upd.refl Nil wr).alloc _))).mono ?_; rintro e w' ⟨rfl, rfl⟩)
        | (go_at_call 45; refine (nol_First _ _ (HN.out.keep ((Upd.refl Nil wr).alloc _))).mono ?_; rintro e w' ⟨rfl, rfl⟩)
        | (go_at_call 42; refine (nol_Last _ _ (HN.out.keep ((Upd.refl Nil wr).alloc _))).mono ?_; rintro e w' ⟨rfl, rfl⟩)
        | (go_at_call 46; refine (nol_Forced _ _ (HN.out.keep ((Upd.refl Nil wr).alloc _))).mono ?_; rintro e w' ⟨rfl, rfl⟩)
        | (go_at_call 40; refine (nol_Room _ _ (HN.out.keep ((Upd.refl Nil wr).alloc _))).mono ?_; rintro e w' ⟨rfl, rfl⟩))
      go_roundg (gk - 1)
      case measure => have := HJ.out; omega
      case rel => exact ⟨2, by have := HJ.out; omega, rfl, HUr.out.alloc _⟩
    · clear d0 d1
      go_wp2
      obtain ⟨W4, hW4⟩ : ∃ W4, (wr.alloc (.cells #[.slice none 0 0, .slice none 0 0] 76)).alloc (.cells #[.pointer none, .pointer (some ⟨wr.heap.size, 0, none⟩)] 60) = W4 := ⟨_, rfl⟩
      have hu4 : Upd Nil wr W4 := by rw [← hW4]; exact ((Upd.refl Nil wr).alloc _).alloc _
      have e0 : W4.cell? ⟨wr.heap.size + 1, 0, none⟩ = some (.pointer none) := by rw [← hW4]; simp [go_sem]
      have e1 : W4.cell? ⟨wr.heap.size + 1, 1, none⟩ = some (.pointer (some ⟨wr.heap.size, 0, none⟩)) := by rw [← hW4]; simp [go_sem]
      have e2 : W4.cell? ⟨wr.heap.size, 1, none⟩ = some (.slice none 0 0) := by rw [← hW4]; simp [go_sem]
      have e3 : W4.cell? ⟨wr.heap.size, 0, none⟩ = some (.slice none 0 0) := by rw [← hW4]; simp [go_sem]
      rw [hW4]
      have HN4 := Lib.hid (show Nob W4 (some ⟨wr.heap.size, 0, none⟩) from .inr ⟨_, rfl, e3, e2⟩)
      have HU4 := Lib.hid ((HU.out.trans HUr.out (fun _ f _ => f)).trans hu4 (fun _ f _ => f))
      have E40 := Lib.hid e0
      have E41 := Lib.hid e1
      clear hu4 hW4 e0 e1 e2 e3
      go_loopg [68] 2 (fun k i wr => ∃ j : Nat, j + k = 2 ∧ i = .int .i64 j ∧ Upd Nil W4 wr)
      case atStart => exact ⟨0, rfl, rfl, Upd.refl _ _⟩
      case round =>
      obtain ⟨j, hj, rfl, hur⟩ := hrel
      have hj3 : j = 0 ∨ j = 1 ∨ j = 2 := by omega
      have HJ2 := Lib.hid hj
      have HUr2 := Lib.hid hur
      have d0 := hur.cell E40.out (fun f => f)
      have d1 := hur.cell E41.out (fun f => f)
      clear hj hur
      rcases hj3 with rfl | rfl | rfl
      · clear d1
        have HN := Lib.hid (show Nob wr none from .inl rfl)
        go_wp2_with (go_at_call 38; refine (nob_Open _ _ z0 z1 HN.out).mono ?_; rintro e w' ⟨rfl, rfl⟩)
        go_roundg (gk - 1)
        case measure => have := HJ2.out; omega
        case rel => exact ⟨1, by have := HJ2.out; omega, rfl, HUr2.out⟩
      · clear d0
        have HN := Lib.hid (HN4.out.keep HUr2.out)
        go_wp2_with (go_at_call 38; refine (nob_Open _ _ z0 z1 HN.out).mono ?_; rintro e w' ⟨rfl, rfl⟩)
        go_roundg (gk - 1)
        case measure => have := HJ2.out; omega
        case rel => exact ⟨2, by have := HJ2.out; omega, rfl, HUr2.out⟩
      · clear d0 d1
        have HU5 := Lib.hid (HU4.out.trans HUr2.out (fun _ f _ => f))
        go_wp2_with (first
          | (go_at_call 37; refine (disk_New_yes _ (n := 3) (by decide) (by decide)).mono ?_; rintro e w1 ⟨d, FD, rfl, g1, g2, g3⟩; have HD := Lib.hid (show DiskRep FD w1 d (List.replicate 3 noughts128) [] from g1); have HFD := Lib.hid g2; have HU1 := Lib.hid (HU5.out.trans g3 (fun _ f _ => f)); have HT1 := Lib.hid (HT.out.upd (HU5.out.trans g3 (fun _ f _ => f)) (fun f => f)); have HT5 := Lib.hid (HT.out.upd HU5.out (fun f => f)); clear g1 g2 g3)
          | (go_at_call 38; refine (log_Open_yes w1 HD.out (fine_noughts (by decide) (by decide)) (fun q => absurd (HFD.out 0 q).1 (by have := World.block_lt_of_cell? _ _ (HT5.out 0 (by decide)); exact Nat.not_le_of_lt this)) (fr := 1) (sectors := 2) (by decide) (by decide) HT1.out).mono ?_; intro e w2 hg; rw [openS_at (N := 3) (fr := 1) (n := 2) (by decide) (by decide), openR_at (N := 3) (fr := 1) (n := 2) (by decide) (by decide), splitL_nil] at hg; obtain ⟨lg, R2, E2, a2, c2, v2, rfl, F2, ⟨g0, FL, FDx, qL, qD, ql, qd⟩, g2, g3, _⟩ := hg; have HL := Lib.hid ql; have HU2 := Lib.hid (HU1.out.past g2 (fun k hk => Nat.le_trans HU5.out.size (HFD.out k hk).1)); clear g0 qL qD ql qd g2 g3)
          | (go_at_call 45; refine (log_First w2 HL.out).mono ?_; rintro e w3 ⟨h1, rfl⟩; have h1 : e = .returned (.int .i64 1) := h1; subst h1)
          | (go_at_call 40; refine (log_Room w2 HL.out (by decide) (by decide)).mono ?_; rintro e w3 ⟨h1, g⟩; have h1 : e = .returned (.int .i64 224) := h1; subst h1; have HU3 := Lib.hid (HU2.out.trans g (fun _ f _ => f)); clear g))
        go_ret
        exact ⟨rfl, HU3.out⟩
end Go.Proofs.YtbaombnnagidcaaDoor.logNobody
