/- The document's Unframe. -/
import Derived.Test.YtbaombnnagidcaaDoorRefRead2
namespace Go.Proofs.YtbaombnnagidcaaDoor
open Go.RowKit

theorem str_same {xs ys : List UInt8} (h : xs = ys) : ((str xs).toList == (str ys).toList) = true := by
  rw [h]
  exact beq_self_eq_true _
theorem str_other {xs ys : List UInt8} (h : xs ≠ ys) : ((str xs).toList == (str ys).toList) = false := by
  rw [str_toList, str_toList, beq_eq_false_iff_ne]
  exact h

set_option maxRecDepth 100000 in
set_option maxHeartbeats 4000000 in
theorem ref_Unframe {F : Nat → Prop} (w : World) {a : Option Addr} (c : Nat) {l : List UInt8} (hr : Row F w a (bvs l)) (hA : a = none → c = 0) (hlc : l.length ≤ c) (hcm : c ≤ maxLen) (hx : l.length ≤ 140737488355328) :
    Calls Tryd.prog 66 #[.slice a l.length c] w (GotTwo w (unframeL l)) := by
  have HR := Lib.hid hr
  have hle := scanL_le l
  have hlt := scanL_lt l
  have hcm' := le_max hcm
  have HCM := Lib.hid hcm
  have HU := Lib.hid (ref_Uint w c hr)
  obtain ⟨i0, hi, hz0, hz1, hz2⟩ := info_parts infoU8
  have hi0 := Lib.hid (And.intro hi (And.intro hz0 (And.intro hz1 hz2)))
  clear hi hz0 hz1 hz2
  unfold unframeL
  obtain ⟨⟨n, k, z⟩, hq⟩ : ∃ q, scanL l = q := ⟨_, rfl⟩
  rw [hq] at HU hle hlt ⊢
  dsimp only at HU hle hlt ⊢
  clear hq
  by_cases hz : z = 0
  · subst hz
    rw [if_neg (by decide)]
    by_cases hn : 65536 < n
    · rw [if_pos hn]
      clear hr hA hcm
      go_enter Tryd.func66, Tryd.ntmps66
      go_wp2_with (go_at_call 98; refine HU.out.mono ?_; rintro e w' ⟨rfl, rfl⟩)
      go_ret3
      exact GotTwo.none_ (Upd.refl _ _)
    · rw [if_neg hn]
      by_cases hs : (l.drop k).length < n + 4
      · rw [if_pos hs]
        have hs' : (l.length : Int) - (k : Int) < (n : Int) + 4 := by rw [List.length_drop] at hs; omega
        clear hr hA hcm hs
        go_enter Tryd.func66, Tryd.ntmps66
        go_wp2_with (go_at_call 98; refine HU.out.mono ?_; rintro e w' ⟨rfl, rfl⟩)
        go_ret3
        exact GotTwo.none_ (Upd.refl _ _)
      · rw [if_neg hs]
        rw [List.length_drop] at hs
        have hs' : k + n + 4 ≤ l.length := by omega
        obtain ⟨bk, o, rfl, hFb, _⟩ := hr (by intro e; have := congrArg List.length e; rw [length_bvs, List.length_nil] at this; omega)
        have hck : ¬ c = k := by omega
        have hckn : ¬ c = k + n := by omega
        obtain ⟨p, hp⟩ : ∃ p, (l.drop k).take n = p := ⟨_, rfl⟩
        obtain ⟨q4, hq4⟩ : ∃ q, ((l.drop k).drop n).take 4 = q := ⟨_, rfl⟩
        obtain ⟨rest, hrest⟩ : ∃ r, (l.drop k).drop (n + 4) = r := ⟨_, rfl⟩
        have hpl : p.length = n := by rw [← hp, List.length_take, List.length_drop]; omega
        have hql : q4.length = 4 := by rw [← hq4, List.length_take, List.length_drop, List.length_drop]; omega
        have hrl : rest.length = l.length - (k + n + 4) := by rw [← hrest, List.length_drop, List.length_drop]; omega
        have hRp : Row F w (some ⟨bk, o + k, none⟩) (bvs p) := by
          have := (hr.dropAt k c (by rw [length_bvs]; exact hle) (by rw [length_bvs]; exact hlc)).take n
          rwa [if_neg hck, ← bvs_drop, ← bvs_take, hp] at this
        have hR4 : Row F w (some ⟨bk, o + (k + n), none⟩) (bvs q4) := by
          have := (hr.dropAt (k + n) c (by rw [length_bvs]; omega) (by rw [length_bvs]; exact hlc)).take 4
          rwa [if_neg hckn, ← bvs_drop, ← bvs_take, ← List.drop_drop, hq4] at this
        rw [hp, hq4, hrest]
        have HPl := Lib.hid hpl
        have HQl := Lib.hid hql
        have HRl := Lib.hid hrl
        have HRp := Lib.hid hRp
        have HR4 := Lib.hid hR4
        have HRest := Lib.hid hrest
        have hsl := sumL_lt p
        obtain ⟨sm, hsm⟩ : ∃ sm, sumL p = sm := ⟨_, rfl⟩
        rw [hsm] at hsl ⊢
        have HSm := Lib.hid hsm
        obtain ⟨fs, hfs⟩ : ∃ fs, fourL sm = fs := ⟨_, rfl⟩
        rw [hfs]
        have hfl : fs.length = 4 := by rw [← hfs]; rfl
        have HFs := Lib.hid hfs
        have HFl := Lib.hid hfl
        clear hr hA hcm hp hq4 hrest hql hrl hRp hR4 hsm hfs hfl hpl
        have i1 : (0 : Int) ≤ (k : Int) := by omega
        have i2 : (k : Int) ≤ (k : Int) + (n : Int) := by omega
        have i3 : (k : Int) + (n : Int) ≤ (c : Int) := by omega
        have i4 : (0 : Int) ≤ (k : Int) + (n : Int) := by omega
        have i5 : (k : Int) + (n : Int) ≤ (k : Int) + (n : Int) + 4 := by omega
        have i6 : (k : Int) + (n : Int) + 4 ≤ (c : Int) := by omega
        have i7 : (k : Int) + (n : Int) + 4 ≤ (l.length : Int) := by omega
        have t1 : ((k : Int) + (n : Int)).toNat = k + n := by omega
        have t2 : ((k : Int) + (n : Int) + 4).toNat = k + n + 4 := by omega
        have t3 : k + n - k = n := by omega
        have t4 : k + n + 4 - (k + n) = 4 := by omega
        have v1 : IntKind.i64.wrap ((k : Int) + (n : Int)) = (k : Int) + (n : Int) := IntWalk.i64_in _ (by omega)
        have v2 : IntKind.i64.wrap ((k : Int) + (n : Int) + 4) = (k : Int) + (n : Int) + 4 := IntWalk.i64_in _ (by omega)
        have hns : ¬ (l.length : Int) - (k : Int) < (n : Int) + 4 := by omega
        by_cases he : fs = q4
        · rw [if_pos he]
          have hee := str_same he
          go_enter Tryd.func66, Tryd.ntmps66
          go_wp2_with (first
            | (go_at_call 98; refine HU.out.mono ?_; rintro e w' ⟨rfl, rfl⟩)
            | (at_builtin; refine wpList_append_Own rfl (.tmp 30) (.tmp 36) 22 rfl Tryd.underlying22 hi0.out.1 hi0.out.2.1 hi0.out.2.2.1 hi0.out.2.2.2 rfl (by decide) rfl (own_empty w) rfl (HRp.out.alloc _) (by rw [length_bvs, Nat.mul_one]; exact HPl.out) (bvs_one _) (fun h => by cases h) (by simp only [maxLen]; omega) (by omega) ?_; intro a1 c1 w1 g1 g2 _; rw [Nat.zero_add, List.nil_append] at g1; have HO1 := Lib.hid (g1.fresh (w0 := w) (fresh_or (Upd.alloc (Upd.refl Nil w) _).size)); have HU1 := Lib.hid (((Upd.refl Nil w).alloc _).past g2 (fun _ hk => hk.1)); clear g1 g2))
          have hcv : ∀ W, Row F W (some ⟨bk, o + (k + n), none⟩) (bvs q4) → (convert 22 9 (.slice (some ⟨bk, o + (k + n), none⟩) 4 (c - (k + n)))).run Tryd.prog W = .ok (.string (str q4)) W := fun W hW => by
            have := run_convert_Row (P := Tryd.prog) hW 22 5 9 Tryd.underlying22 Tryd.underlying5 Tryd.underlying9 (c - (k + n))
            rwa [HQl.out] at this
          have r1 : Row F w1.drew (some ⟨bk, o + (k + n), none⟩) (bvs q4) := HR4.out.keep HU1.out.drew
          have hcw := hcv _ r1
          go_region_law (first
            | (go_simp; go_at_call 20; have hsum := ref_Sum w1.drew c1 HO1.out.drew.row (by have := HPl.out; omega); rw [HPl.out, HSm.out] at hsum; refine hsum.mono ?_; clear hsum; rintro e w3 ⟨rfl, rfl⟩)
            | (go_simp; go_at_call 95; refine (ref_four _ sm hsl).mono ?_; rintro e w4 hg; rw [HFs.out] at hg; obtain ⟨a4, c4, rfl, g1, g2⟩ := hg; have hcx := hcv _ (r1.keep g2); have HU4 := Lib.hid (HU1.out.drew.trans g2 (fun _ f _ => f)); have HO4 := Lib.hid ((HO1.out.drew.keep g2).mono (Fr.on g2.size)); have cv4 : ∀ e, (convert 22 9 (.slice a4 4 e)).run Tryd.prog w4 = .ok (.string (str fs)) w4 := (fun e => by have := run_convert_Row (P := Tryd.prog) g1.row 22 5 9 Tryd.underlying22 Tryd.underlying5 Tryd.underlying9 e; rwa [HFl.out] at this); clear g1 g2))
          all_goals
            have hu := HU4.out
            have HRt := Lib.hid (HR.out.keep hu)
            have HOp := Lib.hid HO4.out
            clear hu
            by_cases hcq : c = k + n + 4
            · have hr0 : rest = [] := List.eq_nil_of_length_eq_zero (by have := HRl.out; omega)
              subst hr0
              have hl0 : l.length - (k + n + 4) = 0 := by have := HRl.out; simpa using this.symm
              go_wp2_with (fail)
              go_ret3
              have hl := HOp.out.le
              refine ⟨a1, c1, some ⟨w4.heap.size, 0, none⟩, 0, ?_, HOp.out.row.mono (Fr.on (by simp)) |>.alloc _, HOp.out.noneCap, ?_, hl.2, ?_, HU4.out.alloc _⟩
              · show _ = Ending.returned (.tuple #[.slice a1 p.length c1, _, _])
                rw [HPl.out]
                rfl
              · show p.length ≤ c1
                rw [HPl.out]
                exact hl.1
              · exact (own_empty w4).fresh (fun q hq => Nat.le_trans HU4.out.size hq.1)
            · have hrow : Row F w4 (some ⟨bk, o + (k + n + 4), none⟩) (bvs rest) := by
                have := (HRt.out.dropAt (k + n + 4) c (by rw [length_bvs]; omega) (by rw [length_bvs]; exact hlc))
                rwa [if_neg hcq, ← bvs_drop, Nat.add_assoc, ← List.drop_drop, HRest.out] at this
              have HRr := Lib.hid hrow
              clear hrow
              go_wp2_with (at_builtin; refine wpList_append_Own rfl (.tmp 54) (.tmp 60) 22 rfl Tryd.underlying22 hi0.out.1 hi0.out.2.1 hi0.out.2.2.1 hi0.out.2.2.2 rfl (by decide) rfl (own_empty w4) rfl (HRr.out.alloc _) (by rw [length_bvs, Nat.mul_one]; exact HRl.out) (bvs_one _) (fun h => by cases h) (by simp only [maxLen]; omega) (by omega) ?_; intro a5 c5 w5 g1 g2 _; rw [Nat.zero_add, List.nil_append] at g1; have HO5 := Lib.hid (g1.fresh (w0 := w) (fun q hq => Nat.le_trans HU4.out.size (fresh_or (Upd.alloc (Upd.refl Nil w4) _).size q hq))); have HU5 := Lib.hid (HU4.out.trans (((Upd.refl Nil w4).alloc _).past g2 (fun _ hk => hk.1)) (fun _ f _ => f)); have HOq := Lib.hid (HOp.out.keep (((Upd.refl Nil w4).alloc _).past g2 (fun _ hk => hk.1))); have HZ5 := Lib.hid g2.size; clear g1 g2)
              go_ret3
              have hl := HOq.out.le
              have hz : w4.heap.size ≤ w5.heap.size := by
                have := HZ5.out
                simp only [World.size_alloc] at this
                omega
              refine ⟨a1, c1, a5, c5, ?_, HOq.out.row.mono (Fr.on hz), HOq.out.noneCap, ?_, hl.2, ?_, HU5.out⟩
              · show _ = Ending.returned (.tuple #[.slice a1 p.length c1, .slice a5 rest.length c5, _])
                rw [HPl.out, HRl.out]
                rfl
              · show p.length ≤ c1
                rw [HPl.out]
                exact hl.1
              · show Own _ _ _ _ _ rest.length _ _
                rw [HRl.out]
                exact HO5.out
        · rw [if_neg he]
          have hee := str_other he
          go_enter Tryd.func66, Tryd.ntmps66
          go_wp2_with (first
            | (go_at_call 98; refine HU.out.mono ?_; rintro e w' ⟨rfl, rfl⟩)
            | (at_builtin; refine wpList_append_Own rfl (.tmp 30) (.tmp 36) 22 rfl Tryd.underlying22 hi0.out.1 hi0.out.2.1 hi0.out.2.2.1 hi0.out.2.2.2 rfl (by decide) rfl (own_empty w) rfl (HRp.out.alloc _) (by rw [length_bvs, Nat.mul_one]; exact HPl.out) (bvs_one _) (fun h => by cases h) (by simp only [maxLen]; omega) (by omega) ?_; intro a1 c1 w1 g1 g2 _; rw [Nat.zero_add, List.nil_append] at g1; have HO1 := Lib.hid (g1.fresh (w0 := w) (fresh_or (Upd.alloc (Upd.refl Nil w) _).size)); have HU1 := Lib.hid (((Upd.refl Nil w).alloc _).past g2 (fun _ hk => hk.1)); clear g1 g2))
          have hcv : ∀ W, Row F W (some ⟨bk, o + (k + n), none⟩) (bvs q4) → (convert 22 9 (.slice (some ⟨bk, o + (k + n), none⟩) 4 (c - (k + n)))).run Tryd.prog W = .ok (.string (str q4)) W := fun W hW => by
            have := run_convert_Row (P := Tryd.prog) hW 22 5 9 Tryd.underlying22 Tryd.underlying5 Tryd.underlying9 (c - (k + n))
            rwa [HQl.out] at this
          have r1 : Row F w1.drew (some ⟨bk, o + (k + n), none⟩) (bvs q4) := HR4.out.keep HU1.out.drew
          have hcw := hcv _ r1
          go_region_law (first
            | (go_simp; go_at_call 20; have hsum := ref_Sum w1.drew c1 HO1.out.drew.row (by have := HPl.out; omega); rw [HPl.out, HSm.out] at hsum; refine hsum.mono ?_; clear hsum; rintro e w3 ⟨rfl, rfl⟩)
            | (go_simp; go_at_call 95; refine (ref_four _ sm hsl).mono ?_; rintro e w4 hg; rw [HFs.out] at hg; obtain ⟨a4, c4, rfl, g1, g2⟩ := hg; have hcx := hcv _ (r1.keep g2); have HU4 := Lib.hid (HU1.out.drew.trans g2 (fun _ f _ => f)); have HO4 := Lib.hid ((HO1.out.drew.keep g2).mono (Fr.on g2.size)); have cv4 : ∀ e, (convert 22 9 (.slice a4 4 e)).run Tryd.prog w4 = .ok (.string (str fs)) w4 := (fun e => by have := run_convert_Row (P := Tryd.prog) g1.row 22 5 9 Tryd.underlying22 Tryd.underlying5 Tryd.underlying9 e; rwa [HFl.out] at this); clear g1 g2))
          all_goals go_wp2
          all_goals go_ret3
          all_goals exact GotTwo.none_ HU4.out
  · rw [if_pos hz]
    have hz' : (z != 0) = true := by rw [bne_iff_ne]; exact hz
    have hz2 : (z == 0) = false := by rw [beq_eq_false_iff_ne]; exact hz
    clear hr hA hcm
    go_enter Tryd.func66, Tryd.ntmps66
    go_wp2_with (go_at_call 98; refine HU.out.mono ?_; rintro e w' ⟨rfl, rfl⟩)
    go_ret3
    exact GotTwo.none_ (Upd.refl _ _)
end Go.Proofs.YtbaombnnagidcaaDoor
