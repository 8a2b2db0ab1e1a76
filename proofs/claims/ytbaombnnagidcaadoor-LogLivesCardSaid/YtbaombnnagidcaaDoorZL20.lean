/- The document's log: little. -/
import Derived.Test.YtbaombnnagidcaaDoorZL06
import Derived.Test.YtbaombnnagidcaaDoorZL14
import Derived.Test.YtbaombnnagidcaaDoorZL18

namespace Go.Proofs.YtbaombnnagidcaaDoor
open Go.RowKit

theorem littleL_take (v : Nat) {j k : Nat} (h : j < k) : (littleL v k).take (j + 1) = (littleL v k).take j ++ [UInt8.ofNat (v / 256 ^ j % 256)] := by
  rw [List.take_succ_eq_append_getElem (by rw [length_littleL]; exact h), littleL_get]

set_option maxRecDepth 100000 in
set_option maxHeartbeats 2000000 in
theorem ref3_little (w : World) (v k : Nat) (hv : v < 9223372036854775808) (hk : k ≤ 8) :
    Calls Tryd.prog 124 #[.int .i64 (v : Int), .int .i64 (k : Int)] w (RetOwn w 5 1 k (bvs (littleL v k))) := by
  obtain ⟨i0, hi, hz0, hz1, hz2⟩ := info_parts infoU8
  have hi0 := Lib.hid (And.intro hi (And.intro hz0 (And.intro hz1 hz2)))
  clear hi hz0 hz1 hz2
  go_enter Tryd.func124, Tryd.ntmps124
  go_wp2
  go_loopg [0, 5, 7] k (fun q nv ov iv wr => ∃ (j : Nat) (a : Option Addr) (c : Nat), j + q = k ∧ iv = .int .i64 (j : Int) ∧ nv = .int .i64 ((v / 256 ^ j : Nat) : Int) ∧ ov = .slice a j c ∧ Own (Fr w wr) wr 5 1 a j c (bvs ((littleL v k).take j)) ∧ Upd Nil w wr)
  case atStart => exact ⟨0, none, 0, by omega, rfl, by simp, rfl, Own.none_ _ _ _ _, Upd.refl _ _⟩
  case round =>
    obtain ⟨j, a, c, hjk, rfl, rfl, rfl, hown, hup⟩ := hrel
    have hjn : j ≤ k := by omega
    obtain ⟨m, hm⟩ : ∃ m, v / 256 ^ j = m := ⟨_, rfl⟩
    have hmb : m < 9223372036854775808 := by rw [← hm]; exact Nat.lt_of_le_of_lt (Nat.div_le_self _ _) hv
    rw [hm]
    have HM := Lib.hid hm
    have HJ := Lib.hid hjk
    have HO := Lib.hid hown
    have HU := Lib.hid hup
    clear hm hjk hown hup
    by_cases hlt : j < k
    · go_wp2_with (at_builtin; refine wpList_append_Own rfl (.tmp 9) (.tmp 13) 22 rfl Tryd.underlying22 hi0.out.1 hi0.out.2.1 hi0.out.2.2.1 hi0.out.2.2.2 rfl (by decide) rfl (HO.out.alloc _) rfl (one_row wr _ _) (by simp) (by simp [Value.oneCell']) (by intro h; cases h) (by simp only [maxLen]; omega) (by omega) ?_; intro a3 c3 w3 h1 h2 _; have HO3 := Lib.hid h1; have HU3 := Lib.hid h2; clear h1 h2)
      go_roundg (gk - 1)
      case measure => have := HJ.out; omega
      case rel =>
        have ho := HO3.out
        rw [show Value.int .u8 ((m : Int) % 256) = bv (UInt8.ofNat (m % 256)) from byteAt m] at ho
        have z0 := HU.out.size
        have z3 := HU3.out.size
        simp only [World.size_alloc] at z3
        have hj := HJ.out
        refine ⟨j + 1, a3, c3, by omega, by go_num, ?_, rfl, ?_, (HU.out.alloc _).trans HU3.out (fun k hk hlt => by have := hk.1; omega)⟩
        · have e : v / 256 ^ (j + 1) = m / 256 := by rw [← HM.out, Nat.div_div_eq_div_mul, Nat.pow_succ]
          rw [e]
          go_num
        · rw [littleL_take v hlt, HM.out, bvs_append]
          refine Own.mono ho ?_
          rintro k (h | h)
          · exact ⟨h.1, by have := h.2; omega⟩
          · have h1 := h.1
            simp only [World.size_alloc] at h1
            exact ⟨by omega, h.2⟩
    · obtain rfl : j = k := by omega
      go_wp2
      go_ret
      have ho := HO.out
      rw [List.take_of_length_le (by rw [length_littleL]; exact Nat.le_refl _)] at ho
      exact ⟨a, c, rfl, ho, HU.out⟩

end Go.Proofs.YtbaombnnagidcaaDoor

namespace Go.Proofs.YtbaombnnagidcaaDoor
open Go.RowKit

set_option maxRecDepth 100000 in
set_option maxHeartbeats 16000000 in
theorem ref3_sector {F : Nat → Prop} (w : World) (place first : Nat) (hp : place < 65536) (hf : first < 9223372036854775808) {a : Option Addr} (c : Nat) {load : List UInt8} {n : Nat} (hr : Row F w a (bvs load)) (hA : a = none → c = 0) (hn : load.length = n) (hl : n ≤ 112) :
    Calls Tryd.prog 118 #[.int .i64 (place : Int), .int .i64 (first : Int), .slice a n c] w (RetOwn w 5 1 128 (bvs (sectorL place first load))) := by
  have HR := Lib.hid hr
  have HA := Lib.hid hA
  obtain ⟨i0, hi, hz0, hz1, hz2⟩ := info_parts infoU8
  have hi0 := Lib.hid (And.intro hi (And.intro hz0 (And.intro hz1 hz2)))
  clear hr hA hi hz0 hz1 hz2
  have hln : (UInt8.ofNat n).toNat = n := toNat_ofNat8 (by omega)
  have HL1 := Lib.hid (show Own (Fr w (w.alloc (.cells #[.int .u8 76, .int .u8 (n : Int)] 5))) (w.alloc (.cells #[.int .u8 76, .int .u8 (n : Int)] 5)) 5 1 (some ⟨w.heap.size, 0, none⟩) 2 2 (bvs [76, UInt8.ofNat n]) by
    have := Own.lit (t := 5) (sz := 1) w #[.int .u8 76, .int .u8 (n : Int)] 2 (by decide) rfl
    have e : bvs [76, UInt8.ofNat n] = [.int .u8 76, .int .u8 (n : Int)] := by
      show [bv 76, bv (UInt8.ofNat n)] = _
      unfold bv
      rw [hln]
      rfl
    rw [e]
    exact this.mono (fun k hk => by subst hk; exact ⟨Nat.le_refl _, by simp⟩))
  obtain ⟨x2, hx2⟩ : ∃ x, littleL place 2 = x := ⟨_, rfl⟩
  obtain ⟨x3, hx3⟩ : ∃ x, littleL first 8 = x := ⟨_, rfl⟩
  obtain ⟨x1, hx1⟩ : ∃ x, [76, UInt8.ofNat n] = x := ⟨_, rfl⟩
  obtain ⟨hd, hhd⟩ : ∃ h, headL place first load = h := ⟨_, rfl⟩
  have hl1 : x1.length = 2 := by rw [← hx1]; rfl
  have hl2 : x2.length = 2 := by rw [← hx2]; exact length_littleL place 2
  have hl3 : x3.length = 8 := by rw [← hx3]; exact length_littleL first 8
  obtain ⟨y2, hy2⟩ : ∃ y, x1 ++ x2 = y := ⟨_, rfl⟩
  obtain ⟨y3, hy3⟩ : ∃ y, y2 ++ x3 = y := ⟨_, rfl⟩
  obtain ⟨y4, hy4⟩ : ∃ y, y3 ++ load = y := ⟨_, rfl⟩
  have hm2 : y2.length = 4 := by rw [← hy2, List.length_append]; omega
  have hm3 : y3.length = 12 := by rw [← hy3, List.length_append]; omega
  have hm4 : y4.length = 12 + n := by rw [← hy4, List.length_append]; omega
  have hpad : y4 ++ List.replicate (112 - n) 0 = hd := by rw [← hhd, headL, padL, hn, hx1, hx2, hx3, hy2, hy3, hy4, hm4, show 124 - (12 + n) = 112 - n by omega]
  have hdl : hd.length = 124 := by rw [← hhd]; exact length_headL (by omega)
  have hsum := sumL_lt hd
  obtain ⟨sm, hsm⟩ : ∃ s, sumL hd = s := ⟨_, rfl⟩
  rw [hsm] at hsum
  obtain ⟨x4, hx4⟩ : ∃ x, littleL sm 4 = x := ⟨_, rfl⟩
  have hl4 : x4.length = 4 := by rw [← hx4]; exact length_littleL sm 4
  have hsec : hd ++ x4 = sectorL place first load := by rw [sectorL, hhd, hsm, ← hx4, littleL_four]
  rw [← hsec]
  rw [hx1] at HL1
  have HX2 := Lib.hid hx2
  have HX3 := Lib.hid hx3
  have HX4 := Lib.hid hx4
  have HY2 := Lib.hid hy2
  have HY3 := Lib.hid hy3
  have HY4 := Lib.hid hy4
  have HPad := Lib.hid hpad
  have HHd := Lib.hid hdl
  have HSm := Lib.hid hsm
  have HN2 := Lib.hid hl2
  have HN3 := Lib.hid hl3
  have HN4 := Lib.hid hl4
  have HNl := Lib.hid hn
  clear hx1 hx2 hx3 hx4 hy2 hy3 hy4 hpad hdl hsm hl1 hl2 hl3 hl4 hhd hsec hln hm2 hm3 hm4 hn
  have tokA : True := trivial
  have tokB : True := trivial
  have tok1 : True := trivial
  have tok2 : True := trivial
  have tok3 : True := trivial
  go_enter Tryd.func118, Tryd.ntmps118
  go_wp2_with (first
    | (have _t := tokA; go_at_call 124; refine (ref3_little _ place 2 (by omega) (by decide)).mono ?_; rintro e w1 hg; rw [HX2.out] at hg; obtain ⟨a1, c1, rfl, g1, g2⟩ := hg; have HU1 := Lib.hid (((Upd.refl Nil w).alloc _).trans g2 (fun _ f _ => f)); have HO1 := Lib.hid g1; have HL1' := Lib.hid ((HL1.out.keep g2).mono (Fr.on g2.size)); clear g1 g2 tokA)
    | (have _t := tok1; at_builtin; refine wpList_append_Own rfl (.tmp 11) (.tmp 13) 22 rfl Tryd.underlying22 hi0.out.1 hi0.out.2.1 hi0.out.2.2.1 hi0.out.2.2.2 rfl (by decide) rfl HL1'.out rfl HO1.out.row (by rw [length_bvs]; exact HN2.out) (bvs_one _) HO1.out.noneCap (by simp only [maxLen]; omega) (by omega) ?_; intro a2 c2 w2 g1 g2 _; rw [← bvs_append, HY2.out] at g1; have HO2 := Lib.hid (g1.fresh (w0 := w) (fresh_or HU1.out.size)); have HU2 := Lib.hid (HU1.out.past g2 (fun _ hk => hk.1)); clear g1 g2 tok1)
    | (have _t := tokB; go_at_call 124; refine (ref3_little _ first 8 hf (by decide)).mono ?_; rintro e w3 hg; rw [HX3.out] at hg; obtain ⟨a3, c3, rfl, g1, g2⟩ := hg; have HU3 := Lib.hid (HU2.out.trans g2 (fun _ f _ => f)); have HO3 := Lib.hid g1; have HO2' := Lib.hid ((HO2.out.keep g2).mono (Fr.on g2.size)); clear g1 g2 tokB)
    | (have _t := tok2; at_builtin; refine wpList_append_Own rfl (.tmp 15) (.tmp 17) 22 rfl Tryd.underlying22 hi0.out.1 hi0.out.2.1 hi0.out.2.2.1 hi0.out.2.2.2 rfl (by decide) rfl HO2'.out rfl HO3.out.row (by rw [length_bvs]; exact HN3.out) (bvs_one _) HO3.out.noneCap (by simp only [maxLen]; omega) (by omega) ?_; intro a4 c4 w4 g1 g2 _; rw [← bvs_append, HY3.out] at g1; have HO4 := Lib.hid (g1.fresh (w0 := w) (fresh_or HU3.out.size)); have HU4 := Lib.hid (HU3.out.past g2 (fun _ hk => hk.1)); clear g1 g2 tok2)
    | (have _t := tok3; at_builtin; refine wpList_append_Own rfl (.tmp 18) (.tmp 19) 22 rfl Tryd.underlying22 hi0.out.1 hi0.out.2.1 hi0.out.2.2.1 hi0.out.2.2.2 rfl (by decide) rfl HO4.out rfl (HR.out.keep HU4.out) (by rw [length_bvs, Nat.mul_one]; exact HNl.out) (bvs_one _) HA.out (by simp only [maxLen]; omega) (by omega) ?_; intro a5 c5 w5 g1 g2 _; rw [← bvs_append, HY4.out] at g1; have HO5 := Lib.hid (g1.fresh (w0 := w) (fresh_or HU4.out.size)); have HU5 := Lib.hid (HU4.out.past g2 (fun _ hk => hk.1)); clear g1 g2 tok3)
    | (at_builtin; refine wpList_append_zeros rfl (.tmp 21) (.tmp 24) 22 3 rfl Tryd.underlying22 Tryd.underlying3 hi0.out.1 hi0.out.2.1 hi0.out.2.2.1 hi0.out.2.2.2 rfl HO5.out (m := 112 - n) rfl (by first | omega | (rw [IntWalk.i64_in _ (by omega)]; omega) | (unfold wrap64; omega)) (by omega) ?_; intro a6 c6 w6 g1 g2; rw [HPad.out] at g1; have e124 : 12 + n + (112 - n) = 124 := (by omega); rw [e124] at g1; rw [e124]; clear e124; have HO6 := Lib.hid (g1.fresh (w0 := w) (fresh_or HU5.out.size)); have HU6 := Lib.hid (HU5.out.past g2 (fun _ hk => hk.1)); clear g1 g2)
    | (go_at_call 20; have hs := ref_Sum _ c6 HO6.out.row (by have := HHd.out; omega); rw [HHd.out, HSm.out] at hs; refine hs.mono ?_; clear hs; rintro e w7 ⟨rfl, rfl⟩)
    | (go_at_call 124; refine (ref3_little _ sm 4 (by omega) (by decide)).mono ?_; rintro e w8 hg; rw [HX4.out] at hg; obtain ⟨a8, c8, rfl, g1, g2⟩ := hg; have HU8 := Lib.hid (HU6.out.trans g2 (fun _ f _ => f)); have HO8 := Lib.hid g1; have HO6' := Lib.hid ((HO6.out.keep g2).mono (Fr.on g2.size)); clear g1 g2)
    | (at_builtin; refine wpList_append_Own rfl (.tmp 26) (.tmp 30) 22 rfl Tryd.underlying22 hi0.out.1 hi0.out.2.1 hi0.out.2.2.1 hi0.out.2.2.2 rfl (by decide) rfl HO6'.out rfl HO8.out.row (by rw [length_bvs]; exact HN4.out) (bvs_one _) HO8.out.noneCap (by simp only [maxLen]; omega) (by omega) ?_; intro a9 c9 w9 g1 g2 _; rw [← bvs_append] at g1; have HO9 := Lib.hid (g1.fresh (w0 := w) (fresh_or HU8.out.size)); have HU9 := Lib.hid (HU8.out.past g2 (fun _ hk => hk.1)); clear g1 g2))
  go_ret
  exact ⟨a9, c9, rfl, HO9.out, HU9.out⟩
end Go.Proofs.YtbaombnnagidcaaDoor

namespace Go.Proofs.YtbaombnnagidcaaDoor
open Go.RowKit

abbrev RefLD := LD 157 155 false
abbrev RefLDGot := LDGot 157 155 false
theorem x_Write_at {F G : Nat → Prop} (w : World) {s : Nat} {B : List (List UInt8)} {P : List Snt} (h : XRep F w s B P) {i : Nat} (hi : i < B.length) (hP : P.length ≤ 4000000000000) {a : Option Addr} (c : Nat) {xs : List UInt8} (hr : Row G w a (bvs xs)) (hA : a = none → c = 0) (hx : xs.length = 128) :
    Calls Tryd.prog 117 #[.pointer (some ⟨s, 0, none⟩), .int .i64 i, .slice a 128 c] w (DGot 155 F w s (.int .i64 0) B (P ++ [(i, xs)])) := by
  have := x_Write_yes w h hi hP c hr hA hx
  rwa [hx] at this

set_option maxRecDepth 100000 in
set_option maxHeartbeats 4000000 in
theorem ref3_Force {F : Nat → Prop} (w : World) {s d : Nat} {S : LogS} {B : List (List UInt8)} (h : RefLD F w s d S B []) (hf : LFine S) (hB : Fine B []) (hfr : S.fr + S.sectors ≤ B.length) :
    Calls Tryd.prog 88 #[.pointer (some ⟨s, 0, none⟩)] w (RefLDGot F w s d (.int .i64 0) (forceS S) (applyP B (forceN S)) []) := by
  have HLD := Lib.hid h
  have HFi := Lib.hid hf
  have HBf := Lib.hid hB
  obtain ⟨h0, FL, FD, hL, hD, hl, hd⟩ := h
  obtain ⟨R, a, c, k1, k2, k3, k4⟩ := hl
  have hsD : ¬ FD s := (hL s k1).2.1
  have c0 : w.cell? ⟨s, 0, none⟩ = some (.pointer (some ⟨d, 0, none⟩)) := k3.cell 0
  have c4 : w.cell? ⟨s, 4, none⟩ = some (.int .i64 (S.last : Int)) := k3.cell 4
  have c5 : w.cell? ⟨s, 5, none⟩ = some (.int .i64 (S.forced : Int)) := k3.cell 5
  have c7 : w.cell? ⟨s, 7, none⟩ = some (.int .i64 (S.durable : Int)) := k3.cell 7
  have HL := Lib.hid hL
  have HD := Lib.hid hD
  have HDk := Lib.hid hd
  have HK := Lib.hid (And.intro k1 (And.intro k2 (And.intro k3 k4)))
  have H0 := Lib.hid h0
  have hlen : S.stream.length ≤ 458752 := by have := hf.stream; have := hf.le; omega
  have hdur := hf.durable
  have hsec := hf.stream
  have hle := hf.le
  have hfirst := hf.first2
  clear hf hB hL hD hd k1 k2 k3 k4 h0
  by_cases hq : S.forced = S.last
  · have e1 : forceS S = S := if_pos hq
    have e2 : forceN S = [] := if_pos hq
    rw [e1, e2]
    have hb : ((S.forced : Int) == (S.last : Int)) = true := by rw [hq]; exact beq_self_eq_true _
    clear e1 e2
    go_enter Tryd.func88, Tryd.ntmps88
    go_wp2_with fail
    go_quiet (fail)
    go_wp2
    go_ret
    exact LDGot.same HLD.out ((Upd.refl Nil w).drewN _)
  · have e1 : forceS S = { S with durable := S.stream.length, forced := S.last } := if_neg hq
    have e2 : forceN S = forceL S.fr S.first S.stream (S.durable / 112) ((S.stream.length + 111) / 112 - S.durable / 112) := if_neg hq
    rw [e1, e2]
    have hb : ((S.forced : Int) == (S.last : Int)) = false := by rw [beq_eq_false_iff_ne]; omega
    clear e1 e2
    obtain ⟨j0, hj0⟩ : ∃ n, S.durable / 112 = n := ⟨_, rfl⟩
    obtain ⟨m, hm⟩ : ∃ n, (S.stream.length + 111) / 112 - S.durable / 112 = n := ⟨_, rfl⟩
    rw [hj0] at hm ⊢
    rw [hm]
    have v1 : Int.tdiv (S.durable : Int) 112 = (j0 : Int) := by rw [← hj0]; rfl
    go_enter Tryd.func88, Tryd.ntmps88
    go_wp2_with fail
    go_quiet (fail)
    go_wp2
    go_loopg [3] m (fun k i wr => ∃ j : Nat, j + k = m ∧ i = .int .i64 ((j0 + j : Nat) : Int) ∧ ∃ FD', XRep FD' wr d B (forceL S.fr S.first S.stream j0 j) ∧ Upd FD w wr ∧ ∀ k, FD' k → FD k ∨ Fr w wr k)
    case atStart => exact ⟨0, by omega, rfl, FD, HDk.out.upd ((Upd.refl Nil w).drewN _) (fun _ _ f => f), (Upd.refl FD w).drewN _, fun _ hk => .inl hk⟩
    case round =>
      obtain ⟨j, hjk, rfl, FD', hrep, hup, hFD⟩ := hrel
      obtain ⟨k1, k2, k3, k4⟩ := HK.out
      have b3 := k3.upd hup hsD
      have d0 : wr.cell? ⟨s, 0, none⟩ = some (.pointer (some ⟨d, 0, none⟩)) := b3.cell 0
      have d1 : wr.cell? ⟨s, 1, none⟩ = some (.int .i64 (S.fr : Int)) := b3.cell 1
      have d3 : wr.cell? ⟨s, 3, none⟩ = some (.int .i64 (S.first : Int)) := b3.cell 3
      have d4 : wr.cell? ⟨s, 4, none⟩ = some (.int .i64 (S.last : Int)) := b3.cell 4
      have d6 : wr.cell? ⟨s, 6, none⟩ = some (.slice a S.stream.length c) := b3.cell 6
      have hRD : ∀ k, R k → ¬ FD k := fun k hk => (HL.out k (k2 k hk).1).2.1
      have hrow : Row R wr a (bvs S.stream) := k4.1.upd hup hRD
      have hlc : S.stream.length ≤ c := k4.2.2.1
      have hcm : c ≤ maxLen := k4.2.2.2.1
      have hac : a = none → c = 0 := k4.2.1
      have hjm : j ≤ m := by omega
      obtain ⟨J, hJ⟩ : ∃ J, j0 + j = J := ⟨_, rfl⟩
      have HRep := Lib.hid hrep
      have HU := Lib.hid hup
      have HFD := Lib.hid hFD
      have HB3 := Lib.hid b3
      have HRow := Lib.hid hrow
      have HJ := Lib.hid hjk
      have HJ2 := Lib.hid hJ
      have HsD' : Hid (¬ FD' s) := Lib.hid (fun q => (hFD s q).elim hsD (fun q => absurd q.1 (by have := (HL.out s k1).2.2; omega)))
      clear c0 c4 c5 c7 hrep hup hFD k1 k2 k3 k4 b3 hrow hRD hb
      rw [hJ]
      by_cases hlt : j < m
      · have hJl : J * 112 < S.stream.length := by omega
        clear hJ hjk
        obtain ⟨ab, ao, ea, _, _⟩ := HRow.out (fun e => by have e2 := congrArg List.length e; rw [length_bvs, List.length_nil] at e2; omega)
        subst ea
        have s1 : IntKind.i64.wrap ((J : Int) * 112) = ((J * 112 : Nat) : Int) := by rw [IntWalk.i64_in _ (by omega)]; rfl
        have s2 : IntKind.i64.wrap (((J * 112 : Nat) : Int) + 112) = ((J * 112 + 112 : Nat) : Int) := by rw [IntWalk.i64_in _ (by omega)]; rfl
        go_wp2_with fail
        go_quiet (fail)
        all_goals go_wp2_with fail
        all_goals first
          | (obtain ⟨n, hn⟩ : ∃ n, ((J : Int) * 112 + 112).toNat - J * 112 = n := ⟨_, rfl⟩
             rw [hn]
             have hn2 : Hid (n = min (S.stream.length - J * 112) 112) := Lib.hid (by omega)
             have hn4 : n ≤ 112 := by omega
             have hn5 : n ≤ S.stream.length - J * 112 := by omega
             clear hn)
          | (obtain ⟨n, hn⟩ : ∃ n, S.stream.length - J * 112 = n := ⟨_, rfl⟩
             rw [hn]
             have hn2 : Hid (n = min (S.stream.length - J * 112) 112) := Lib.hid (by omega)
             have hn4 : n ≤ 112 := by omega
             have hn5 : n ≤ S.stream.length - J * 112 := by omega
             clear hn)
        all_goals
          have hrow2 : Row R wr (some ⟨ab, ao + J * 112, none⟩) (bvs (chunkL S.stream J)) := by
            have e1 : bvs (chunkL S.stream J) = ((bvs S.stream).drop (J * 112)).take 112 := by simp [chunkL, bvs, List.map_drop, List.map_take]
            rw [e1]
            exact HRow.out.cut (J * 112) 112 (by intro e; have e2 := congrArg List.length e; rw [List.length_take, List.length_drop, length_bvs, List.length_nil] at e2; omega) rfl
          have hn3 : (chunkL S.stream J).length = n := by have := hn2.out; rw [chunkL, List.length_take, List.length_drop]; omega
          have HRow2 := Lib.hid hrow2
          have HN3 := Lib.hid hn3
          have s4 : IntKind.i64.wrap ((S.fr : Int) + (J : Int)) = ((S.fr + J : Nat) : Int) := by rw [IntWalk.i64_in _ (by omega)]; rfl
          clear hrow2 hn3
          go_region_held3 (fun W => W.cell? ⟨s, 0, none⟩ = some (.pointer (some ⟨d, 0, none⟩)) ∧ W.cell? ⟨s, 1, none⟩ = some (.int .i64 (S.fr : Int)) ∧ W.cell? ⟨s, 3, none⟩ = some (.int .i64 (S.first : Int))) (first | exact ⟨x0, x1, x3⟩ | exact ⟨m0, m1, m3⟩ | exact ⟨d0, d1, d3⟩)
            (first
              | (go_at_call 118; refine (ref3_sector _ J S.first (by omega) (by omega) (c - J * 112) (HRow2.out.drewN _) (fun e => by cases e) HN3.out (by omega)).mono ?_; rintro e w1 ⟨a1, c1, rfl, g1, g2⟩; have m0 := g2.cell d0 (fun f => f); have m1 := g2.cell d1 (fun f => f); have m3 := g2.cell d3 (fun f => f); have HB1 := Lib.hid (HB3.out.upd g2.ofDrewN (fun f => f)); have HO1 := Lib.hid g1; have HU1 := Lib.hid g2; clear g1 g2)
              | (go_at_call 117; refine (x_Write_at _ (HRep.out.upd HU1.out.ofDrewN (fun _ _ f => f)) (i := S.fr + J) (by have := HJ2.out; have := HJ.out; omega) (by rw [length_forceL]; omega) c1 HO1.out.row HO1.out.noneCap (length_sectorL (by rw [HN3.out]; omega))).mono ?_; rintro e w2 ⟨rfl, F2, g1, g2, g3⟩; have b2 := HB1.out.upd g2 HsD'.out; have x0 : w2.cell? ⟨s, 0, none⟩ = some (.pointer (some ⟨d, 0, none⟩)) := b2.cell 0; have x1 : w2.cell? ⟨s, 1, none⟩ = some (.int .i64 (S.fr : Int)) := b2.cell 1; have x3 : w2.cell? ⟨s, 3, none⟩ = some (.int .i64 (S.first : Int)) := b2.cell 3; have HG1 := Lib.hid g1; have HG2 := Lib.hid g2; have HG3 := Lib.hid g3; clear g1 g2 g3 b2))
        all_goals go_wp2
        all_goals go_roundg (gk - 1)
        all_goals first
          | (have := HJ.out; omega)
          | (have hu1 := HU1.out.ofDrewN.ofNil (G := FD')
             have e1 : chunkL S.stream J = chunkL S.stream (j0 + j) := by rw [HJ2.out]
             refine ⟨j + 1, by have := HJ.out; omega, by have := HJ2.out; go_num, F2, ?_, ?_, ?_⟩
             · rw [forceL, HJ2.out]
               exact HG1.out
             · refine HU.out.trans (hu1.trans HG2.out (fun k hk _ => hk)) (fun k hk hlt => (HFD.out k hk).elim id (fun q => absurd q.1 (by omega)))
             · intro k hk
               rcases HG3.out k hk with q | q
               · exact (HFD.out k q).imp id (Fr.on (Nat.le_trans hu1.size HG2.out.size) k)
               · exact .inr (Fr.back (Nat.le_trans HU.out.size hu1.size) k q))
      · have hJl : S.stream.length ≤ J * 112 := by omega
        have hjm2 : j = m := by omega
        have s1 : IntKind.i64.wrap ((J : Int) * 112) = ((J * 112 : Nat) : Int) := by rw [IntWalk.i64_in _ (by omega)]; rfl
        clear hJ hjk
        go_wp2_with (go_at_call 119; refine (x_Flush wr HRep.out (fine_forceL HBf.out (by have := HFi.out.stream; omega)) (by rw [length_forceL]; omega)).mono ?_; rintro e w2 ⟨rfl, F2, g1, g2, g3⟩; have b2 := HB3.out.upd g2 (fun q => hsD ((HFD.out s q).elim id (fun q => absurd q.1 (by have := (HL.out s HK.out.1).2.2; omega)))); have e4 : w2.cell? ⟨s, 4, none⟩ = some (.int .i64 (S.last : Int)) := b2.cell 4; have e6 : w2.cell? ⟨s, 6, none⟩ = some (.slice a S.stream.length c) := b2.cell 6; have f5 := b2.frozen 5; have f7 := b2.frozen 7; have e5 : w2.cell? ⟨s, 5, none⟩ = some (.int .i64 (S.forced : Int)) := b2.cell 5; have e7 : w2.cell? ⟨s, 7, none⟩ = some (.int .i64 (S.durable : Int)) := b2.cell 7; have HB2 := Lib.hid b2; have HG1 := Lib.hid g1; have HG2 := Lib.hid g2; have HG3 := Lib.hid g3; clear g1 g2 g3 b2 d0 d1 d3 d4 d6)
        go_region
        all_goals go_wp2
        go_ret
        obtain ⟨k1, k2, k3, k4⟩ := HK.out
        have hsz := (HL.out s k1).2.2
        have UU : Upd FD w w2 := HU.out.trans HG2.out (fun k hk hlt => (HFD.out k hk).elim id (fun q => absurd q.1 (by omega)))
        have hF2 : ∀ k, F2 k → FD k ∨ Fr w w2 k := fun k hk => by
          rcases HG3.out k hk with q | q
          · exact (HFD.out k q).imp id (Fr.on HG2.out.size k)
          · exact .inr (Fr.back HU.out.size k q)
        have one : Upd (One s) w2 ((w2.setCell ⟨s, 7, none⟩ (.int .i64 (S.stream.length : Int))).setCell ⟨s, 5, none⟩ (.int .i64 (S.last : Int))).drew := (((Upd.refl (One s) w2).setCell (p := ⟨s, 7, none⟩) (.inl rfl) _).setCell (p := ⟨s, 5, none⟩) (.inl rfl) _).drew
        have hz := UU.size
        have hz1 := one.size
        have hg1 := HG1.out
        rw [hjm2] at hg1
        refine LDGot.disk H0.out HL.out HD.out ⟨R, a, c, k1, fun k hk => ⟨(k2 k hk).1, (k2 k hk).2.1, by have := (k2 k hk).2.2; omega⟩, ((HB2.out.set 7 (.int .i64 (S.stream.length : Int))).set 5 (.int .i64 (S.last : Int))).drew, (k4.upd UU (fun k hk => (HL.out k (k2 k hk).1).2.1)).upd one (fun k hk e => (k2 k hk).2.1 e)⟩ (hg1.upd one (fun k hk e => ?_)) ?_ (fun k hk => (hF2 k hk).imp id (Fr.on hz1 k))
        · subst e
          rcases hF2 k hk with q | q
          · exact hsD q
          · have := q.1; omega
        · exact ((UU.mono (fun k hk => (HD.out k hk).1)).trans one (fun k hk _ => by rw [show k = s from hk]; exact (HL.out s k1).1))

set_option maxRecDepth 100000 in
set_option maxHeartbeats 4000000 in
theorem ref3_Reset {F : Nat → Prop} (w : World) {s d : Nat} {S : LogS} {B : List (List UInt8)} (h : RefLD F w s d S B []) (hf : LFine S) (hB : Fine B []) (hfr : S.fr + S.sectors ≤ B.length) :
    Calls Tryd.prog 89 #[.pointer (some ⟨s, 0, none⟩)] w (RefLDGot F w s d (.int .i64 (resetC S)) (resetS S) (applyP B (resetN S)) []) := by
  have HLD := Lib.hid h
  have HBf := Lib.hid hB
  obtain ⟨h0, FL, FD, hL, hD, hl, hd⟩ := h
  obtain ⟨R, a, c, k1, k2, k3, k4⟩ := hl
  have hsD : ¬ FD s := (hL s k1).2.1
  have c3 : w.cell? ⟨s, 3, none⟩ = some (.int .i64 (S.first : Int)) := k3.cell 3
  have c4 : w.cell? ⟨s, 4, none⟩ = some (.int .i64 (S.last : Int)) := k3.cell 4
  have c5 : w.cell? ⟨s, 5, none⟩ = some (.int .i64 (S.forced : Int)) := k3.cell 5
  have c6 : w.cell? ⟨s, 6, none⟩ = some (.slice a S.stream.length c) := k3.cell 6
  have c7 : w.cell? ⟨s, 7, none⟩ = some (.int .i64 (S.durable : Int)) := k3.cell 7
  have f3 := k3.frozen 3
  have f5 := k3.frozen 5
  have f6 := k3.frozen 6
  have f7 := k3.frozen 7
  have HL := Lib.hid hL
  have HD := Lib.hid hD
  have HDk := Lib.hid hd
  have HK := Lib.hid (And.intro k1 (And.intro k2 (And.intro k3 k4)))
  have H0 := Lib.hid h0
  have HPos := Lib.hid hf.pos
  clear hf hB hL hD hd k1 k2 k3 k4 h0
  by_cases hq : 4611686018427387904 ≤ S.last
  · have e1 : resetS S = S := if_pos hq
    have e2 : resetN S = [] := if_pos hq
    have e3 : resetC S = 4 := if_pos hq
    rw [e1, e2, e3]
    clear e1 e2 e3 c3 c5 c6 c7 f3 f5 f6 f7
    have hq3 : decide ((4611686018427387904 : Int) ≤ (S.last : Int)) = true := by rw [decide_eq_true_eq]; omega
    clear hq
    go_enter Tryd.func89, Tryd.ntmps89
    go_wp2_with fail
    go_ret
    exact LDGot.same HLD.out (Upd.refl Nil w)
  · have hq2 : S.last < 4611686018427387904 := by omega
    clear hq
    have hq : ¬ 4611686018427387904 ≤ S.last := by omega
    have e1 : resetS S = { S with first := S.last + 1, forced := S.last, stream := [], durable := 0 } := if_neg hq
    have e2 : resetN S = [(S.fr, sectorL 0 (S.last + 1) [])] := if_neg hq
    have e3 : resetC S = 0 := if_neg hq
    rw [e1, e2, e3]
    clear e1 e2 e3 hq
    have hq3 : decide ((4611686018427387904 : Int) ≤ (S.last : Int)) = false := by rw [decide_eq_false_iff_not]; omega
    have s1 : IntKind.i64.wrap ((S.last : Int) + 1) = ((S.last + 1 : Nat) : Int) := by rw [IntWalk.i64_in _ (by omega)]; rfl
    have HQ2 := Lib.hid hq2
    clear hq2
    go_enter Tryd.func89, Tryd.ntmps89
    go_wp2_with fail
    go_region
    all_goals go_wp2_with fail
    obtain ⟨W, hW⟩ : ∃ W, ((((w.setCell ⟨s, 3, none⟩ (.int .i64 ((S.last : Int) + 1))).setCell ⟨s, 5, none⟩ (.int .i64 (S.last : Int))).setCell ⟨s, 6, none⟩ (.slice none 0 0)).setCell ⟨s, 7, none⟩ (.int .i64 0)).drew = W := ⟨_, rfl⟩
    rw [hW]
    have one : Upd (One s) w W := by
      rw [← hW]
      exact (((((Upd.refl (One s) w).setCell (p := ⟨s, 3, none⟩) (.inl rfl) _).setCell (p := ⟨s, 5, none⟩) (.inl rfl) _).setCell (p := ⟨s, 6, none⟩) (.inl rfl) _).setCell (p := ⟨s, 7, none⟩) (.inl rfl) _).drew
    have bW : Blk W s 157 (logCells d { S with first := S.last + 1, forced := S.last, stream := [], durable := 0 } none 0) := by
      rw [← hW]
      exact ((((HK.out.2.2.1.set 3 (.int .i64 ((S.last : Int) + 1))).set 5 (.int .i64 (S.last : Int))).set 6 (.slice none 0 0)).set 7 (.int .i64 0)).drew
    have d0 : W.cell? ⟨s, 0, none⟩ = some (.pointer (some ⟨d, 0, none⟩)) := bW.cell 0
    have d1 : W.cell? ⟨s, 1, none⟩ = some (.int .i64 (S.fr : Int)) := bW.cell 1
    have d3 : W.cell? ⟨s, 3, none⟩ = some (.int .i64 ((S.last + 1 : Nat) : Int)) := bW.cell 3
    have HB3 := Lib.hid bW
    have HU := Lib.hid one
    have HW := Lib.hid hW
    have HDW := Lib.hid (HDk.out.upd one (fun k hk (q : k = s) => hsD (by rw [← q]; exact hk)))
    clear hW one bW c3 c4 c5 c6 c7 f3 f5 f6 f7
    go_region_held3 (fun W => W.cell? ⟨s, 0, none⟩ = some (.pointer (some ⟨d, 0, none⟩)) ∧ W.cell? ⟨s, 1, none⟩ = some (.int .i64 (S.fr : Int)) ∧ W.cell? ⟨s, 3, none⟩ = some (.int .i64 ((S.last + 1 : Nat) : Int))) (first | exact ⟨x0, x1, x3⟩ | exact ⟨m0, m1, m3⟩ | exact ⟨d0, d1, d3⟩)
      (first
        | (go_at_call 118; refine (ref3_sector (F := Nil) (load := []) (n := 0) _ 0 (S.last + 1) (by omega) (by have := HQ2.out; omega) 0 (Row.nil _ _ none) (fun _ => rfl) rfl (Nat.zero_le _)).mono ?_; rintro e w1 ⟨a1, c1, rfl, g1, g2⟩; have m0 := g2.cell d0 (fun f => f); have m1 := g2.cell d1 (fun f => f); have m3 := g2.cell d3 (fun f => f); have HB1 := Lib.hid (HB3.out.upd g2.ofDrew (fun f => f)); have HO1 := Lib.hid g1; have HU1 := Lib.hid g2; clear g1 g2)
        | (go_at_call 117; refine (x_Write_at _ (HDW.out.upd HU1.out.ofDrew (fun _ _ f => f)) (i := S.fr) (by have := HPos.out; omega) (by simp) c1 HO1.out.row HO1.out.noneCap (length_sectorL (Nat.zero_le _))).mono ?_; rintro e w2 ⟨rfl, F2, g1, g2, g3⟩; have b2 := HB1.out.upd g2 hsD; have x0 : w2.cell? ⟨s, 0, none⟩ = some (.pointer (some ⟨d, 0, none⟩)) := b2.cell 0; have x1 : w2.cell? ⟨s, 1, none⟩ = some (.int .i64 (S.fr : Int)) := b2.cell 1; have x3 : w2.cell? ⟨s, 3, none⟩ = some (.int .i64 ((S.last + 1 : Nat) : Int)) := b2.cell 3; have HB2 := Lib.hid b2; have HG1 := Lib.hid g1; have HG2 := Lib.hid g2; have HG3 := Lib.hid g3; clear g1 g2 g3 b2))
    all_goals go_wp2_with (go_at_call 119; refine (x_Flush w2 HG1.out (HBf.out.snoc (by have := HPos.out; omega) (length_sectorL (Nat.zero_le _))) (by simp)).mono ?_; rintro e w3 ⟨rfl, F3, g1, g2, g3⟩; have HH1 := Lib.hid g1; have HH2 := Lib.hid g2; have HH3 := Lib.hid g3; clear g1 g2 g3)
    go_ret
    obtain ⟨k1, k2, k3, k4⟩ := HK.out
    have hsz := (HL.out s k1).2.2
    have U1 : Upd Nil W w1 := HU1.out.ofDrew
    have z1 := HU.out.size
    have z2 := U1.size
    have z3 := HG2.out.size
    have z4 := HH2.out.size
    have hF2 : ∀ k, F2 k → FD k ∨ Fr w w2 k := fun k hk => (HG3.out k hk).imp id (Fr.back (Nat.le_trans z1 z2) k)
    have hF3 : ∀ k, F3 k → FD k ∨ Fr w w3 k := fun k hk => by
      rcases HH3.out k hk with q | q
      · exact (hF2 k q).imp id (Fr.on z4 k)
      · exact .inr (Fr.back (Nat.le_trans z1 (Nat.le_trans z2 z3)) k q)
    have hs2 : ¬ F2 s := fun q => (hF2 s q).elim hsD (fun q => absurd q.1 (by omega))
    have up : Upd F w w3 := ((HU.out.trans U1 (G := One s) (fun _ f _ => f.elim)).mono (G' := F) (fun k hk => by rw [show k = s from hk]; exact (HL.out s k1).1)).trans (HG2.out.trans HH2.out (fun k hk hlt => (HG3.out k hk).elim id (fun q => absurd q.1 (by omega)))) (fun k hk _ => (HD.out k hk).1)
    exact LDGot.disk H0.out HL.out HD.out ⟨Nil, none, 0, k1, fun _ f => f.elim, HB2.out.upd HH2.out hs2, Held.none_ _ _⟩ HH1.out up hF3
end Go.Proofs.YtbaombnnagidcaaDoor
