/- The records of a stream: split of the program. -/
import Derived.Test.YtbaombnnagidcaaDoorZL07
import Derived.Test.YtbaombnnagidcaaDoorZL11
import Derived.Laws.IdiomStrings

namespace Go.Proofs.YtbaombnnagidcaaDoor
open Go.RowKit

theorem Rows.far {R E G : Nat → Prop} {w w' : World} {a : Option Addr} {n c : Nat} {vs : List Value} {l : List (List UInt8)} (h : Rows R E w a n c vs l) (u : Upd G w w') (hR : ∀ k, R k → ¬ G k) (hE : ∀ k, E k → ¬ G k) : Rows R E w' a n c vs l :=
  ⟨h.own.upd u hR, h.all.mono (fun _ _ q => q.upd u hE), h.len, fun k hk => Nat.lt_of_lt_of_le (h.inR k hk) u.size, fun k hk => Nat.lt_of_lt_of_le (h.inE k hk) u.size, h.apart⟩
theorem Rows.snocE {R E : Nat → Prop} {w w1 w2 : World} {a a2 : Option Addr} {n c c2 : Nat} {vs : List Value} {v : Value} {l : List (List UInt8)} {xs : List UInt8} {o : Obj} (h : Rows R E w a n c vs l)
    (he : Elem (Fr w w1) w1 v xs) (hup1 : Upd Nil w w1)
    (hown2 : Own (fun k => R k ∨ Fr (w1.alloc o) w2 k) w2 22 1 a2 (n + 1) c2 (vs ++ [v])) (hup2 : Upd R (w1.alloc o) w2) :
    Rows (fun k => R k ∨ Fr (w1.alloc o) w2 k) (fun k => E k ∨ Fr w w1 k) w2 a2 (n + 1) c2 (vs ++ [v]) (l ++ [xs]) := by
  have hz1 := hup1.size
  have hz2 := hup2.size
  simp only [World.size_alloc] at hz2
  refine ⟨hown2, ?_, by simp [h.len], ?_, ?_, ?_⟩
  · have hold : All2 (Elem (fun k => E k ∨ Fr w w1 k) w2) vs l := h.all.mono (fun v x hh => by
      refine (((hh.upd hup1 (fun k _ f => f)).keep ((Upd.refl Nil w1).alloc o)).upd hup2 ?_).mono (fun k h => Or.inl h)
      exact fun k he hr => h.apart k he hr)
    refine hold.snoc ?_
    refine ((he.keep ((Upd.refl Nil w1).alloc o)).upd hup2 ?_).mono (fun k h => Or.inr h)
    rintro k ⟨h1, _⟩ hr
    have := h.inR k hr
    omega
  · rintro k (hk | ⟨_, hk⟩)
    · have := h.inR k hk
      omega
    · exact hk
  · rintro k (hk | ⟨_, hk⟩)
    · have := h.inE k hk
      omega
    · omega
  · rintro k (hk | ⟨h1, h2⟩) (hr | ⟨h3, h4⟩)
    · exact h.apart k hk hr
    · have := h.inE k hk
      simp only [World.size_alloc] at h3
      omega
    · have := h.inR k hr
      omega
    · simp only [World.size_alloc] at h3
      omega

theorem splitL_yes {l : List UInt8} (h0 : (textR 2000 l).2.2 = 0) (h1 : (textR 2000 l).1 ≠ []) : splitL l = ((textR 2000 l).1 :: (splitL (l.drop (textR 2000 l).2.1)).1, (textR 2000 l).2.1 + (splitL (l.drop (textR 2000 l).2.1)).2) := by
  rw [splitL, dif_pos ⟨h0, h1⟩]
theorem splitL_no {l : List UInt8} (h : ¬ ((textR 2000 l).2.2 = 0 ∧ (textR 2000 l).1 ≠ [])) : splitL l = ([], 0) := by
  rw [splitL, dif_neg h]
theorem textR_used {m : Nat} {l : List UInt8} (h1 : (textR m l).1 ≠ []) : 0 < (textR m l).2.1 ∧ (textR m l).2.1 ≤ l.length ∧ (textR m l).1.length ≤ m ∧ (textR m l).1.length < (textR m l).2.1 := by
  have hm := textR_le m l
  unfold textR at h1 hm ⊢
  split at h1
  · exact absurd rfl h1
  · split at h1
    · exact absurd rfl h1
    · split at h1
      · exact absurd rfl h1
      · rename_i q1 q2 q3
        rw [if_neg q1, if_neg q2, if_neg q3] at hm ⊢
        have hl : 0 < (List.take (scanL l).1 (List.drop (scanL l).2.1 l)).length := List.length_pos_iff.2 h1
        have hk : 0 < (scanL l).2.1 := by
          rcases Nat.eq_zero_or_pos (scanL l).2.1 with h0 | h0
          · have : l ≠ [] := by rintro rfl; simp at hl
            cases l with
            | nil => exact absurd rfl this
            | cons x r =>
              exfalso
              unfold scanL at h0 q1
              rw [scanR] at h0 q1
              split at h0
              · simp_all
              · split at h0
                · rename_i q4 q5
                  rw [if_neg q4, if_pos q5] at q1
                  exact scan_pos r 1 _ (by omega) (by simpa using q1) h0
                · split at h0
                  · rename_i q4 q5 q6
                    exact absurd q6.2 (by omega)
                  · simp at h0
          · exact h0
        rw [List.length_take, List.length_drop] at hl
        have := scanL_le l
        dsimp only at hm ⊢
        refine ⟨by omega, by omega, hm, ?_⟩
        rw [List.length_take, List.length_drop]
        omega
where
  scan_pos : ∀ (l : List UInt8) (i acc : Nat), 0 < i → (scanR i acc l).2.2 = 0 → (scanR i acc l).2.1 = 0 → False
    | [], i, acc, _, h, _ => by
      rw [scanR] at h
      split at h <;> simp at h
    | c :: l, i, acc, hi, h, h0 => by
      rw [scanR] at h h0
      split at h
      · simp at h
      · rename_i q1
        rw [if_neg q1] at h0
        split at h
        · rename_i q2
          rw [if_pos q2] at h0
          exact scan_pos l (i + 1) _ (by omega) h h0
        · rename_i q2
          rw [if_neg q2] at h0
          split at h
          · simp at h
          · rename_i q3
            rw [if_neg q3] at h0
            simp at h0

/-- records that are handed back, all of it new, and a number -/
def GotRecs (w : World) (l : List (List UInt8)) (n : Nat) (e : Ending) (w' : World) : Prop :=
  ∃ R E a c vs, e = .returned (.tuple #[.slice a l.length c, .int .i64 (n : Int)]) ∧ Rows R E w' a l.length c vs l ∧ (∀ k, R k → Fr w w' k) ∧ (∀ k, E k → Fr w w' k) ∧ Upd Nil w w'

/-- '[]byte(s)' -/
theorem bytes_of (w : World) (xs : List UInt8) (hx : xs.length ≤ 140737488355328) :
    ∃ c w', (convert 9 22 (.string (str xs))).run Tryd.prog w = .ok (.slice (some ⟨w.heap.size, 0, none⟩) xs.length c) w' ∧ Elem (Fr w w') w' (.slice (some ⟨w.heap.size, 0, none⟩) xs.length c) xs ∧ Upd Nil w w' ∧ w.heap.size < w'.heap.size := by
  have hr := run_bytes_of_string (P := Tryd.prog) w 9 22 5 (str xs) Tryd.underlying9 Tryd.underlying22 Tryd.underlying5
  rw [size_str] at hr
  have hge := grownCap_ge w xs.length 0 5
  have hcm := grownCap_le_maxLen w xs.length 0 5 (by simp only [maxLen]; omega)
  refine ⟨_, _, hr, ⟨_, _, rfl, ?_, (fun h => by cases h), hge, hcm⟩, ((Upd.refl Nil w).drew).alloc _, by simp⟩
  intro hn
  refine ⟨w.heap.size, 0, rfl, ⟨Nat.le_refl _, by simp⟩, fun i u hu => ?_⟩
  rw [Nat.zero_add]
  have hb := heap_alloc_new w.drew (.cells (bytesRow (str xs) (grownCap w xs.length 0 5)) 5 ((bytesRow (str xs) (grownCap w xs.length 0 5)).size, (bytesRow (str xs) (grownCap w xs.length 0 5)).size + 1))
  rw [cell_of_row _ w.heap.size i _ _ _ hb]
  have hi : i < xs.length := by
    rcases Nat.lt_or_ge i xs.length with h | h
    · exact h
    · rw [List.getElem?_eq_none (by rw [length_bvs]; exact h)] at hu
      cases hu
  rw [bvs_get xs i hi] at hu
  rw [← hu, bytesRow, Array.getElem?_append_left (by simp [str]; exact hi)]
  simp [str, hi]

set_option maxRecDepth 100000 in
set_option maxHeartbeats 4000000 in
theorem log_split {F : Nat → Prop} (w : World) {a : Option Addr} (c : Nat) {l : List UInt8} (hr : Row F w a (bvs l)) (hx : l.length ≤ 1000000) :
    Calls Tryd.prog 73 #[.slice a l.length c] w (GotRecs w (splitL l).1 (splitL l).2) := by
  have HR := Lib.hid hr
  obtain ⟨i0, hi, hz0, hz1, hz2⟩ := info_parts infoBytes
  have hi0 := Lib.hid (And.intro hi (And.intro hz0 (And.intro hz1 hz2)))
  obtain ⟨⟨rs, n⟩, hsp⟩ : ∃ q, splitL l = q := ⟨_, rfl⟩
  rw [hsp]
  have HSp := Lib.hid hsp
  clear hr hi hz0 hz1 hz2 hsp
  go_enter Tryd.func73, Tryd.ntmps73
  go_wp2_with (go_at_call 23; refine (rd_Over _ c HR.out (by omega)).mono ?_; rintro e w1 ⟨s, F1, rfl, g1, g2, g3⟩; have H1 := Lib.hid g1; have HF := Lib.hid (show ∀ q, F1 q → w.heap.size ≤ q ∧ q < w1.heap.size from g2); have HU1 := Lib.hid g3; clear g1 g2 g3)
  go_loopg [4] l.length (fun k lv wr => ∃ (p : Nat) (dn : List (List UInt8)) (R E : Nat → Prop) (a2 : Option Addr) (c2 : Nat) (vs : List Value), p + k = l.length ∧ lv = .slice a2 dn.length c2 ∧ rs = dn ++ (splitL (l.drop p)).1 ∧ n = p + (splitL (l.drop p)).2 ∧ dn.length ≤ p ∧ Rows R E wr a2 dn.length c2 vs dn ∧ (∀ q, R q → w1.heap.size ≤ q) ∧ (∀ q, E q → w1.heap.size ≤ q) ∧ Rd F1 wr s l p ∧ Upd Nil w wr ∧ w1.heap.size ≤ wr.heap.size)
  case atStart => exact ⟨0, [], Nil, Nil, none, 0, [], by omega, rfl, by rw [List.drop_zero, HSp.out]; rfl, by rw [List.drop_zero, HSp.out, Nat.zero_add], Nat.le_refl _, ⟨Own.none_ _ _ _ _, trivial, rfl, fun _ f => f.elim, fun _ f => f.elim, fun _ f => f.elim⟩, fun _ f => f.elim, fun _ f => f.elim, H1.out, HU1.out, Nat.le_refl _⟩
  case round =>
    obtain ⟨p, dn, R, E, a2, c2, vs, hpk, rfl, hrs, hn, hdp, hrows, hR, hE, hrd, hup, hz1⟩ := hrel
    have hpl : p ≤ l.length := by omega
    have HP := Lib.hid hpk
    have HRs := Lib.hid hrs
    have HN := Lib.hid hn
    have HRw := Lib.hid hrows
    have HRf := Lib.hid hR
    have HEf := Lib.hid hE
    have HRd := Lib.hid hrd
    have HU := Lib.hid hup
    have HZ1 := Lib.hid hz1
    have hld : (l.drop p).length = l.length - p := List.length_drop
    have HLd := Lib.hid hld
    have e1 : (l.length : Int) - ((l.length - p : Nat) : Int) = (p : Int) := by omega
    obtain ⟨⟨x, k, z⟩, ht⟩ : ∃ t, textR 2000 (l.drop p) = t := ⟨_, rfl⟩
    have HT := Lib.hid ht
    clear hpk hrs hn hrows hR hE hrd hup hld hz1
    by_cases hgood : z = 0 ∧ x ≠ []
    · obtain ⟨rfl, hx0⟩ := hgood
      have hus := textR_used (m := 2000) (l := l.drop p) (by rw [ht]; exact hx0)
      have hsy := splitL_yes (l := l.drop p) (by rw [ht]) (by rw [ht]; exact hx0)
      rw [ht, HLd.out] at hus
      rw [ht] at hsy
      dsimp only at hus hsy
      rw [List.drop_drop] at hsy
      have HSy := Lib.hid hsy
      obtain ⟨hk0, hkl, hxm, hxk⟩ := hus
      have hne : (str x).toList.isEmpty = false := by rw [str_toList]; cases x with | nil => exact absurd rfl hx0 | cons _ _ => rfl
      have hne2 : ¬ (str x).toList = [] := by intro e; rw [e] at hne; cases hne
      clear ht hsy
      obtain ⟨sx, hsx⟩ : ∃ s, str x = s := ⟨_, rfl⟩
      rw [hsx] at hne hne2
      have HSx := Lib.hid hsx
      clear hsx
      go_wp2_with (first
        | (go_at_call 26; refine (rd_Left _ HRd.out).mono ?_; rintro e w2 hg; rw [HLd.out] at hg; obtain ⟨rfl, g⟩ := hg; have HU2 := Lib.hid g; clear g)
        | (go_at_call 25; refine (rd_Text _ (HRd.out.keep HU2.out) 2000).mono ?_; rintro e w3 hg; rw [HT.out] at hg; dsimp only at hg; rw [HSx.out] at hg; obtain ⟨rfl, g1, g2⟩ := hg; have H3 := Lib.hid g1; have HU3 := Lib.hid g2
           obtain ⟨c5, w5, hcv, he5, hu5, hz5⟩ := bytes_of w3 x (by omega); rw [HSx.out] at hcv; have HE5 := Lib.hid he5; have HU5 := Lib.hid hu5; have HZ5 := Lib.hid hz5; clear g1 g2 he5 hu5 hz5)
        | (at_builtin; refine wpList_append_Own rfl (.tmp 29) (.tmp 32) 59 rfl Tryd.underlying59 hi0.out.1 hi0.out.2.1 hi0.out.2.2.1 hi0.out.2.2.2 rfl (by decide) rfl (((((HRw.out.own.keep HU2.out).upd HU3.out (fun q h1 h2 => by have := HRf.out q h1; have := (HF.out q h2).2; omega)).keep HU5.out)).alloc _) rfl (one_row w5 _ _) (by simp) (by simp [Value.oneCell']) (by intro h; cases h) (by simp only [maxLen]; omega) (by omega) ?_; intro a6 c6 w6 g1 g2 _; have HO6 := Lib.hid g1; have HU6 := Lib.hid g2; clear g1 g2))
      go_roundg (gk - k)
      case measure => have := HP.out; omega
      case rel =>
        have hr3 := ((HRw.out.far HU2.out (fun _ _ f => f) (fun _ _ f => f)).far HU3.out (fun q h1 h2 => by have := HRf.out q h1; have := (HF.out q h2).2; omega) (fun q h1 h2 => by have := HEf.out q h1; have := (HF.out q h2).2; omega))
        have hr6 := hr3.snocE HE5.out HU5.out HO6.out HU6.out
        have z2 := HU2.out.size
        have z3 := HU3.out.size
        have z5 := HZ5.out
        have z6 := HU6.out.size
        have zz := HZ1.out
        have z0 := HU1.out.size
        simp only [World.size_alloc] at z6
        refine ⟨p + k, dn ++ [x], _, _, a6, c6, _, by have := HP.out; omega, by rw [List.length_append]; rfl, ?_, ?_, by rw [List.length_append, List.length_singleton]; omega, by rw [List.length_append]; exact hr6, ?_, ?_, ?_, ?_, by omega⟩
        · rw [HRs.out, HSy.out, List.append_assoc]
          rfl
        · rw [HN.out, HSy.out]
          show p + (k + _) = p + k + _
          omega
        · rintro q (h | ⟨h, _⟩)
          · exact HRf.out q h
          · simp only [World.size_alloc] at h
            omega
        · rintro q (h | ⟨h, _⟩)
          · exact HEf.out q h
          · omega
        · exact ((H3.out.keep HU5.out).keep ((Upd.refl Nil w5).alloc _)).upd HU6.out (fun q h1 h2 => by have := HRf.out q h2; have := (HF.out q h1).2; omega)
        · have u3 := (HU.out.trans HU2.out (fun _ f _ => f)).past HU3.out (fun q hq => (HF.out q hq).1)
          exact ((u3.trans HU5.out (fun _ f _ => f)).alloc _).past HU6.out (fun q hq => by have := HRf.out q hq; omega)
    · have hsn := splitL_no (l := l.drop p) (by rw [ht]; exact hgood)
      have hrs' := HRs.out
      have hn' := HN.out
      rw [hsn] at hrs' hn'
      dsimp only at hrs' hn'
      rw [List.append_nil] at hrs'
      rw [Nat.add_zero] at hn'
      have HA := Lib.hid (And.intro hrs' hn')
      have hcs : ((z != 0) = true ∧ (z == 0) = false) ∨ (z = 0 ∧ (str x).toList = [] ∧ (str x).toList.isEmpty = true) := by
        by_cases hz : z = 0
        · right
          have hx0 : x = [] := Decidable.byContradiction (fun h => hgood ⟨hz, h⟩)
          subst hx0
          exact ⟨hz, str_toList [], by rw [str_toList]; rfl⟩
        · exact .inl ⟨by rw [bne_iff_ne]; exact hz, by rw [beq_eq_false_iff_ne]; exact hz⟩
      clear ht hsn hrs' hn' hgood
      obtain ⟨sx, hsx⟩ : ∃ s, str x = s := ⟨_, rfl⟩
      rw [hsx] at hcs
      have HSx := Lib.hid hsx
      clear hsx
      rcases hcs with ⟨q1, q2⟩ | ⟨rfl, q1, q2⟩
      all_goals
        go_wp2_with (first
          | (go_at_call 26; refine (rd_Left _ HRd.out).mono ?_; rintro e w2 hg; rw [HLd.out] at hg; obtain ⟨rfl, g⟩ := hg; have HU2 := Lib.hid g; clear g)
          | (go_at_call 25; refine (rd_Text _ (HRd.out.keep HU2.out) 2000).mono ?_; rintro e w3 hg; rw [HT.out] at hg; dsimp only at hg; rw [HSx.out] at hg; obtain ⟨rfl, g1, g2⟩ := hg; have HU3 := Lib.hid g2; clear g1 g2))
        go_ret2
        have z2 := HU2.out.size
        have z3 := HU3.out.size
        have zz := HZ1.out
        have z0 := HU1.out.size
        have hr3 := ((HRw.out.far HU2.out (fun _ _ f => f) (fun _ _ f => f)).far HU3.out (fun q h1 h2 => by have := HRf.out q h1; have := (HF.out q h2).2; omega) (fun q h1 h2 => by have := HEf.out q h1; have := (HF.out q h2).2; omega))
        rw [HA.out.1, HA.out.2]
        exact ⟨R, E, a2, c2, vs, rfl, hr3, fun q hq => ⟨by have := HRf.out q hq; omega, hr3.inR q hq⟩, fun q hq => ⟨by have := HEf.out q hq; omega, hr3.inE q hq⟩, (HU.out.trans HU2.out (fun _ f _ => f)).past HU3.out (fun q hq => (HF.out q hq).1)⟩
end Go.Proofs.YtbaombnnagidcaaDoor
