/- The document's reader: Uint, Text. -/
import Derived.Test.YtbaombnnagidcaaDoorRefRead
namespace Go.Proofs.YtbaombnnagidcaaDoor
open Go.RowKit

set_option maxRecDepth 100000 in
set_option maxHeartbeats 2000000 in
theorem xr_Uint {F : Nat → Prop} (w : World) {s : Nat} {l : List UInt8} (h : Xr F w s l) :
    Calls Tryd.prog 67 #[.pointer (some ⟨s, 0, none⟩)] w (XrGot F w s (.tuple #[.int .i64 (scanL l).1, .int .i64 (scanL l).2.2]) (l.drop (scanL l).2.1)) := by
  have HX := Lib.hid h
  obtain ⟨R, a, c, h1, h2, h3, h4, h5, h6, h7⟩ := h
  have hle := scanL_le l
  have herr := @scanL_err l
  have hc0 : w.cell? ⟨s, 0, none⟩ = some (.slice a l.length c) := h3.cell 0
  have hf0 := h3.frozen 0
  have hcm := le_max h6
  have HU := Lib.hid (ref_Uint w c h4)
  obtain ⟨⟨n, k, z⟩, hq⟩ : ∃ q, scanL l = q := ⟨_, rfl⟩
  rw [hq] at HU hle herr ⊢
  dsimp only at HU hle herr ⊢
  have HCut := Lib.hid (Xr.cut h1 h2 h3 h4 h5 h6 h7 hle)
  have HFs := Lib.hid h1
  clear hq h1 h2 h3 h4 h6 h7
  by_cases hz : z = 0
  · subst hz
    clear herr
    have hk0 : (0 : Int) ≤ (k : Int) := by omega
    have hkc : (k : Int) ≤ (l.length : Int) := by omega
    have hkc2 : (l.length : Int) ≤ (c : Int) := by omega
    by_cases hck : c = k
    · have hc := HCut.out
      rw [if_pos hck] at hc
      have HC := Lib.hid hc
      clear hc HCut
      subst hck
      go_enter Tryd.func67, Tryd.ntmps67
      go_wp2_with (go_at_call 98; refine HU.out.mono ?_; rintro e w' ⟨rfl, rfl⟩)
      go_ret2
      refine ⟨rfl, ?_, (Upd.refl F w).setCell (p := ⟨s, 0, none⟩) (.inl HFs.out) _⟩
      have := HC.out
      rwa [show l.length - c = 0 by omega, Nat.sub_self] at this
    · have hc := HCut.out
      rw [if_neg hck] at hc
      have HC := Lib.hid hc
      clear hc HCut
      go_enter Tryd.func67, Tryd.ntmps67
      go_wp2_with (go_at_call 98; refine HU.out.mono ?_; rintro e w' ⟨rfl, rfl⟩)
      go_ret2
      exact ⟨rfl, HC.out, (Upd.refl F w).setCell (p := ⟨s, 0, none⟩) (.inl HFs.out) _⟩
  · obtain ⟨rfl, rfl⟩ := herr hz
    have hz' : (z != 0) = true := by rw [bne_iff_ne]; exact hz
    have hz2 : (z == 0) = false := by rw [beq_eq_false_iff_ne]; exact hz
    go_enter Tryd.func67, Tryd.ntmps67
    go_wp2_with (go_at_call 98; refine HU.out.mono ?_; rintro e w' ⟨rfl, rfl⟩)
    go_ret2
    refine ⟨rfl, ?_, Upd.refl _ _⟩
    rw [List.drop_zero]
    exact HX.out

set_option maxRecDepth 100000 in
set_option maxHeartbeats 4000000 in
theorem xr_Text {F : Nat → Prop} (w : World) {s : Nat} {l : List UInt8} (h : Xr F w s l) (m : Nat) (hm0 : m ≤ 1000000) :
    Calls Tryd.prog 68 #[.pointer (some ⟨s, 0, none⟩), .int .i64 m] w (XrGot F w s (.tuple #[.string (str (textR m l).1), .int .i64 (textR m l).2.2]) (l.drop (textR m l).2.1)) := by
  have HX := Lib.hid h
  obtain ⟨R, a, c, h1, h2, h3, h4, h5, h6, h7⟩ := h
  have hle := scanL_le l
  have hlt := scanL_lt l
  have hc0 : w.cell? ⟨s, 0, none⟩ = some (.slice a l.length c) := h3.cell 0
  have hf0 := h3.frozen 0
  have hcm := le_max h6
  have HU := Lib.hid (ref_Uint w c h4)
  unfold textR
  obtain ⟨⟨n, k, z⟩, hq⟩ : ∃ q, scanL l = q := ⟨_, rfl⟩
  rw [hq] at HU hle hlt ⊢
  dsimp only at HU hle hlt ⊢
  have HFs := Lib.hid h1
  clear hq
  by_cases hz : z = 0
  · subst hz
    rw [if_neg (by decide)]
    by_cases hm : m < n
    · rw [if_pos hm]
      have hm' : max (m : Int) 0 < (n : Int) := by omega
      clear h1 h2 h3 h4 h5 h6 h7
      go_enter Tryd.func68, Tryd.ntmps68
      go_wp2_with (go_at_call 98; refine HU.out.mono ?_; rintro e w' ⟨rfl, rfl⟩)
      all_goals
        go_ret2
        refine ⟨rfl, ?_, Upd.refl _ _⟩
        rw [List.drop_zero]
        exact HX.out
    · rw [if_neg hm]
      have hm' : ¬ max (m : Int) 0 < (n : Int) := by omega
      by_cases hl : l.length - k < n
      · rw [if_pos hl]
        have hl' : (l.length : Int) - (k : Int) < (n : Int) := by omega
        clear h1 h2 h3 h4 h5 h6 h7
        go_enter Tryd.func68, Tryd.ntmps68
        go_wp2_with (go_at_call 98; refine HU.out.mono ?_; rintro e w' ⟨rfl, rfl⟩)
        all_goals
          go_ret2
          refine ⟨rfl, ?_, Upd.refl _ _⟩
          rw [List.drop_zero]
          exact HX.out
      · rw [if_neg hl]
        have hl' : ¬ (l.length : Int) - (k : Int) < (n : Int) := by omega
        obtain ⟨q, hq⟩ : ∃ q, k + n = q := ⟨_, rfl⟩
        have hql : q ≤ l.length := by omega
        have HCut := Lib.hid (Xr.cut h1 h2 h3 h4 h5 h6 h7 hql)
        have hcut : ((l.drop k).take n).length = n := by rw [List.length_take, List.length_drop]; omega
        obtain ⟨ys, hys⟩ : ∃ ys, (l.drop k).take n = ys := ⟨_, rfl⟩
        rw [hys] at hcut ⊢
        rw [hq]
        have HYs := Lib.hid hys
        have HCl := Lib.hid hcut
        have HR := Lib.hid h4
        have e1 : (k : Int) + (n : Int) = (q : Int) := by omega
        have e4 : q - k = n := by omega
        have b1 : (0 : Int) ≤ (k : Int) := by omega
        have b2 : (k : Int) ≤ (q : Int) := by omega
        have b3 : (q : Int) ≤ (c : Int) := by omega
        have b4 : (0 : Int) ≤ (q : Int) := by omega
        have b5 : (q : Int) ≤ (l.length : Int) := by omega
        have b6 : (l.length : Int) ≤ (c : Int) := by omega
        have hcv : ∀ (A : Option Addr), (ys = [] ∨ (A = a.map (·.add k) ∧ c ≠ k)) → ∀ e : Nat, (convert 22 9 (.slice A n e)).run Tryd.prog w = .ok (.string (str ys)) w := by
          intro A hA e
          have hrow : Row R w A (bvs ys) := by
            rcases hA with h0 | ⟨rfl, hne⟩
            · rw [h0]
              exact Row.nil _ _ _
            · have := (HR.out.drop k c (by rw [length_bvs]; omega) (by rw [length_bvs]; exact h5)).take n
              rwa [if_neg hne, ← bvs_drop, ← bvs_take, hys] at this
          have := run_convert_Row (P := Tryd.prog) hrow 22 5 9 Tryd.underlying22 Tryd.underlying5 Tryd.underlying9 e
          rwa [hcut] at this
        clear h1 h2 h3 h4 h6 h7 hys hcut
        by_cases hck : c = k
        · have hy0 : ys = [] := List.eq_nil_of_length_eq_zero (by have := HCl.out; omega)
          have cv := hcv a (.inl hy0)
          have hc := HCut.out
          rw [if_pos (by omega)] at hc
          have HC := Lib.hid hc
          clear hcv hc HCut hy0
          obtain rfl : n = 0 := by omega
          obtain rfl : q = k := by omega
          subst hck
          go_enter Tryd.func68, Tryd.ntmps68
          go_wp2_with (go_at_call 98; refine HU.out.mono ?_; rintro e w' ⟨rfl, rfl⟩)
          all_goals
            go_ret2
            refine ⟨rfl, ?_, (Upd.refl F w).setCell (p := ⟨s, 0, none⟩) (.inl HFs.out) _⟩
            have := HC.out
            rwa [show l.length - c = 0 by omega, Nat.sub_self] at this
        · have cv := hcv _ (.inr ⟨rfl, hck⟩)
          clear hcv
          by_cases hcq : c = q
          · have hc := HCut.out
            rw [if_pos hcq] at hc
            have HC := Lib.hid hc
            clear hc HCut
            subst hcq
            go_enter Tryd.func68, Tryd.ntmps68
            go_wp2_with (go_at_call 98; refine HU.out.mono ?_; rintro e w' ⟨rfl, rfl⟩)
            all_goals
              go_ret2
              refine ⟨rfl, ?_, (Upd.refl F w).setCell (p := ⟨s, 0, none⟩) (.inl HFs.out) _⟩
              have := HC.out
              rwa [show l.length - c = 0 by omega, Nat.sub_self] at this
          · have hc := HCut.out
            rw [if_neg hcq] at hc
            have HC := Lib.hid hc
            clear hc HCut
            go_enter Tryd.func68, Tryd.ntmps68
            go_wp2_with (go_at_call 98; refine HU.out.mono ?_; rintro e w' ⟨rfl, rfl⟩)
            all_goals
              go_ret2
              exact ⟨rfl, HC.out, (Upd.refl F w).setCell (p := ⟨s, 0, none⟩) (.inl HFs.out) _⟩
  · rw [if_pos hz]
    have hz' : (z != 0) = true := by rw [bne_iff_ne]; exact hz
    have hz2 : (z == 0) = false := by rw [beq_eq_false_iff_ne]; exact hz
    clear h1 h2 h3 h4 h5 h6 h7
    go_enter Tryd.func68, Tryd.ntmps68
    go_wp2_with (go_at_call 98; refine HU.out.mono ?_; rintro e w' ⟨rfl, rfl⟩)
    go_ret2
    refine ⟨rfl, ?_, Upd.refl _ _⟩
    rw [List.drop_zero]
    exact HX.out
end Go.Proofs.YtbaombnnagidcaaDoor
