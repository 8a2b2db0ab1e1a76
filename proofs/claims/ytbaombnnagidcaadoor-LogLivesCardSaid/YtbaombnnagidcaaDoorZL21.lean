/- The document's log: clean. -/
import Derived.Test.YtbaombnnagidcaaDoorZL15
import Derived.Test.YtbaombnnagidcaaDoorZL20
import Derived.Deep.DeepCutAuto

namespace Go.Proofs.YtbaombnnagidcaaDoor
open Go.RowKit

/-- the sectors that the document keeps -/
theorem keep_ref (S : LogS) (used : Nat) : min used ((S.durable - 1) / 112 + 1) = min used (max 1 ((S.durable + 111) / 112)) := by omega
theorem lastW_ref {S : LogS} {B : List (List UInt8)} {used had : Nat} (h : CFine S B used had) {keep : Nat} (hk : min used (max 1 ((S.durable + 111) / 112)) = keep) :
    lastW S used had = if 0 < keep ∧ (keep - 1) * 112 + (S.stream.length - (keep - 1) * 112) < min had (keep * 112) then [(S.fr + (keep - 1), sectorL (keep - 1) S.first (S.stream.drop ((keep - 1) * 112)))] else [] := by
  have h1 := h.durable
  have h2 := h.durable2
  have h3 := h.had
  unfold lastW
  by_cases q : 0 < used
  · have e1 : keep = (S.durable - 1) / 112 + 1 := by omega
    have e2 : keep - 1 = (S.durable - 1) / 112 := by omega
    have e3 : (S.durable - 1) / 112 * 112 + (S.stream.length - (S.durable - 1) / 112 * 112) = S.durable := by omega
    rw [e2, e3, e1]
    by_cases q2 : S.durable < min had (((S.durable - 1) / 112 + 1) * 112)
    · rw [if_pos ⟨q, q2⟩, if_pos ⟨by omega, q2⟩]
    · rw [if_neg (fun z => q2 z.2), if_neg (fun z => q2 z.2)]
  · rw [if_neg (fun z => q z.1), if_neg (by omega)]
/-- a read of a sector that no pending write goes to -/
theorem x_Read_at {F : Nat → Prop} (w : World) {s : Nat} {B : List (List UInt8)} {P : List Snt} (h : XRep F w s B P) (hf : Fine B P) (hP : P.length ≤ 4000000000000) {i : Nat} (hi : i < B.length) (hm : ∀ p ∈ P, p.1 ≠ i) {X : List UInt8} (hX : B.getD i [] = X) :
    Calls Tryd.prog 109 #[.pointer (some ⟨s, 0, none⟩), .int .i64 i] w fun e w' => ∃ a c, e = .returned (.tuple #[.slice a 128 c, .int .i64 0]) ∧ Own (Fr w w') w' 5 1 a 128 c (bvs X) ∧ Upd Nil w w' := by
  have h1 := x_Read_yes w h hf hP hi
  have h2 : readOf B P i hi = X := by
    rw [readOf_miss hi (fun j hj => hm _ (List.getElem_mem hj)), ← hX, List.getD_eq_getElem?_getD, List.getElem?_eq_getElem hi]
    rfl
  have h3 : X.length = 128 := by
    rw [← hX, List.getD_eq_getElem?_getD, List.getElem?_eq_getElem hi]
    exact hf.size _ (List.getElem_mem hi)
  rw [h2] at h1
  refine h1.mono ?_
  rintro e w' ⟨a, c, he, g1, g2⟩
  rw [h3] at he g1
  exact ⟨a, c, he, g1, g2⟩

set_option maxRecDepth 100000 in
set_option maxHeartbeats 8000000 in
theorem ref3_clean {F : Nat → Prop} (w : World) {s d : Nat} {S : LogS} {B : List (List UInt8)} (h : RefLD F w s d S B []) {used had : Nat} (hf : CFine S B used had) (hB : Fine B []) :
    Calls Tryd.prog 112 #[.pointer (some ⟨s, 0, none⟩), .int .i64 (used : Int), .int .i64 (had : Int)] w (RefLDGot F w s d (.tuple #[]) S (applyP B (cleanW S B used had)) []) := by
  have HLD := Lib.hid h
  have HFi := Lib.hid hf
  have HBf := Lib.hid hB
  obtain ⟨h0, FL, FD, hL, hD, hl, hd⟩ := h
  obtain ⟨R, a, c, k1, k2, k3, k4⟩ := hl
  have hsD : ¬ FD s := (hL s k1).2.1
  have hn : S.durable ≤ 458752 := by have := hf.durable2; have := hf.had; have := hf.used; have := hf.le; have := hB.le; omega
  have hh : had ≤ 458752 := by have := hf.had; have := hf.used; have := hf.le; have := hB.le; omega
  have hu : used ≤ 4096 := by have := hf.used; have := hf.le; have := hB.le; omega
  have hss : S.sectors ≤ 4096 := by have := hf.le; have := hB.le; omega
  have c7 : w.cell? ⟨s, 7, none⟩ = some (.int .i64 (S.durable : Int)) := k3.cell 7
  have HL := Lib.hid hL
  have HD := Lib.hid hD
  have HDk := Lib.hid hd
  have HK := Lib.hid (And.intro k1 (And.intro k2 (And.intro k3 k4)))
  have H0 := Lib.hid h0
  have HB0 := Lib.hid k3
  obtain ⟨K, hK⟩ : ∃ K, min used (max 1 ((S.durable + 111) / 112)) = K := ⟨_, rfl⟩
  obtain ⟨L, hLe⟩ : ∃ L, K - 1 = L := ⟨_, rfl⟩
  have hlw := lastW_ref hf hK
  rw [hLe] at hlw
  have HLw := Lib.hid hlw
  obtain ⟨P0, hP0⟩ : ∃ P, lastW S used had = P := ⟨_, rfl⟩
  have hPm : (∀ p ∈ P0, p.1 < S.fr + K ∧ p.2.length = 128) ∧ P0.length ≤ 1 := by
    refine ⟨fun p hp => ?_, ?_⟩
    · rw [← hP0] at hp
      have := lastW_mem hf hp
      rwa [keep_ref, hK] at this
    · rw [← hP0, lastW]
      split
      · exact Nat.le_refl _
      · exact Nat.zero_le _
  have hcw : cleanW S B used had = P0 ++ zerosL B S.fr K (S.sectors - K) := by rw [cleanW, hP0, keep_ref, hK]
  rw [hcw]
  have hKs : K ≤ S.sectors := by have := hf.used; omega
  have hLl : L * 112 ≤ S.stream.length := by have := hf.durable; omega
  have hsl : S.stream.length ≤ 458752 := by have := hf.durable; omega
  have hLt : 0 < S.stream.length → L * 112 < S.stream.length := by have := hf.durable; omega
  have HLt := Lib.hid hLt
  have HPm := Lib.hid hPm
  have HP0 := Lib.hid hP0
  have HK0 := Lib.hid hK
  have HLe := Lib.hid hLe
  clear hPm hP0 hcw hK hlw hLt
  clear hf hB hL hD hd k1 k2 k3 k4 h0
  go_enter Tryd.func112, Tryd.ntmps112
  go_upto_region 1 with fail
  go_cut [7] (fun v wx => v = .int .i64 (K : Int) ∧ wx = w)
  case first =>
    obtain ⟨q, hq⟩ : ∃ q, (S.durable + 111) / 112 = q := ⟨_, rfl⟩
    have v1 : Int.tdiv ((S.durable : Int) + 111) 112 = (q : Int) := by rw [← hq, show (S.durable : Int) + 111 = ((S.durable + 111 : Nat) : Int) from rfl]; rfl
    have HK2 : Hid (min used (max 1 q) = K) := Lib.hid (by rw [← hq]; exact HK0.out)
    have hq2 : q ≤ 5000 := by omega
    clear hq hLl hKs hsl
    go_wp2_with fail
    all_goals go_meet
    all_goals exact ⟨congrArg (Value.int .i64) (by have := HK2.out; omega), rfl⟩
  case rest =>
    obtain ⟨rfl, e0⟩ := hcut
    have e1 := e0.symm
    subst e1
    clear e0
    go_upto_region 2 with fail
    go_cut [8] (fun v wx => (∃ pa pc, v = .slice pa (S.stream.length - L * 112) pc ∧ Row R w pa (bvs (S.stream.drop (L * 112))) ∧ (pa = none → pc = 0)) ∧ wx = w)
    case first =>
      have d6 : w.cell? ⟨s, 6, none⟩ = some (.slice a S.stream.length c) := HB0.out.cell 6
      obtain ⟨_, _, _, k4⟩ := HK.out
      have hlc : S.stream.length ≤ c := k4.2.2.1
      have hcm : c ≤ maxLen := k4.2.2.2.1
      have hac : a = none → c = 0 := k4.2.1
      have HRow := Lib.hid k4.1
      have hcm2 : c ≤ 9223372036854775807 := le_max hcm
      clear k4 c7 hn hcm
      rcases Nat.eq_zero_or_pos L with hz | hz
      · subst hz
        have hK3 : K = 0 ∨ K = 1 := by omega
        have b0 : (S.stream.length : Int) ≤ (c : Int) := by omega
        clear hLe
        rcases hK3 with rfl | rfl
        all_goals
          go_wp2_with fail
          go_meet
          exact ⟨⟨a, c, rfl, by rw [Nat.zero_mul, List.drop_zero]; exact HRow.out, hac⟩, rfl⟩
      · obtain rfl : K = L + 1 := by omega
        have hlt : L * 112 < S.stream.length := by
          by_cases q : 0 < S.stream.length
          · exact HLt.out q
          · omega
        obtain ⟨b, o, rfl, _⟩ := HRow.out (fun e => by have e2 := congrArg List.length e; rw [length_bvs, List.length_nil] at e2; omega)
        have hrow : Row R w (some ⟨b, o + L * 112, none⟩) (bvs (S.stream.drop (L * 112))) := by
          have := HRow.out.dropAt (L * 112) c (by rw [length_bvs]; omega) (by rw [length_bvs]; exact hlc)
          rw [if_neg (by omega)] at this
          simpa [bvs, List.map_drop] using this
        have HRow2 := Lib.hid hrow
        have q0 : (0 : Int) ≤ (L : Int) * 112 := by omega
        have q1 : ((L : Int) * 112).toNat = L * 112 := by omega
        have q2 : (L : Int) * 112 ≤ (S.stream.length : Int) := by omega
        have q3 : (S.stream.length : Int) ≤ (c : Int) := by omega
        have q4 : ¬ c = L * 112 := by omega
        clear hLe hrow hac hlt
        go_wp2_with fail
        all_goals go_meet
        all_goals first
          | exact ⟨⟨_, _, rfl, HRow2.out, fun h => by cases h⟩, rfl⟩
          | (exfalso; omega)
    case rest =>
      obtain ⟨⟨pa, pc, rfl, hpr, hpn⟩, e0⟩ := hcut
      have e1 := e0.symm
      subst e1
      clear e0
      have HPr := Lib.hid (And.intro hpr hpn)
      clear hpr hpn
      go_upto_region 3 with fail
      go_cut [44] (fun v wx => v = .bool (decide (0 < K ∧ L * 112 + (S.stream.length - L * 112) < min had (K * 112))) ∧ wx = w)
      case first =>
        clear c7 hn
        rcases Nat.eq_zero_or_pos K with hz | hz
        · subst hz
          go_wp2_with fail
          all_goals go_meet
          all_goals exact ⟨congrArg Value.bool (decide_eq_false (by omega)).symm, rfl⟩
        · obtain rfl : K = L + 1 := by omega
          have q2 : (L : Int) * 112 + ((S.stream.length - L * 112 : Nat) : Int) = (S.stream.length : Int) := by omega
          go_wp2_with fail
          all_goals go_meet
          all_goals exact ⟨congrArg Value.bool (decide_eq_decide.2 (by omega)), rfl⟩
      case rest =>
        obtain ⟨rfl, e0⟩ := hcut
        have e1 := e0.symm
        subst e1
        clear e0
        go_upto_if 44 with fail
        go_cut [6] (fun v wx => ∃ b : Bool, v = .bool b ∧ b = decide (lastW S used had ≠ []) ∧ ∃ FD1, XRep FD1 wx d B (lastW S used had) ∧ Upd FD w wx ∧ ∀ k, FD1 k → FD k ∨ Fr w wx k)
        case first =>
          by_cases hw : 0 < K ∧ L * 112 + (S.stream.length - L * 112) < min had (K * 112)
          · have hl : lastW S used had = [(S.fr + L, sectorL L S.first (S.stream.drop (L * 112)))] := by rw [HLw.out, if_pos hw]
            have hd : decide (0 < K ∧ L * 112 + (S.stream.length - L * 112) < min had (K * 112)) = true := decide_eq_true hw
            have HLw2 := Lib.hid hl
            have hKL : K = L + 1 := by omega
            have hL7 : S.stream.length - L * 112 ≤ 112 := by omega
            have hLs : S.fr + L < B.length := by have := HFi.out.le; omega
            have hfr : S.fr + L ≤ 4096 := by have := HBf.out.le; omega
            have d0 : w.cell? ⟨s, 0, none⟩ = some (.pointer (some ⟨d, 0, none⟩)) := HB0.out.cell 0
            have d1 : w.cell? ⟨s, 1, none⟩ = some (.int .i64 (S.fr : Int)) := HB0.out.cell 1
            have d3 : w.cell? ⟨s, 3, none⟩ = some (.int .i64 (S.first : Int)) := HB0.out.cell 3
            have HFirst := Lib.hid (And.intro HFi.out.first HFi.out.first2)
            have HN3 := Lib.hid (show (S.stream.drop (L * 112)).length = S.stream.length - L * 112 from List.length_drop)
            obtain ⟨FK, hFK⟩ : ∃ q, S.fr + K = q := ⟨_, rfl⟩
            obtain ⟨FL', hFL'⟩ : ∃ q, S.fr + L = q := ⟨_, rfl⟩
            have t1 : IntKind.i64.wrap ((S.fr : Int) + (K : Int)) = (FK : Int) := by rw [IntWalk.i64_in _ (by omega)]; omega
            have t2 : IntKind.i64.wrap ((FK : Int) - 1) = (FL' : Int) := by rw [IntWalk.i64_in _ (by omega)]; omega
            have t3 : IntKind.i64.wrap ((K : Int) - 1) = (L : Int) := by rw [IntWalk.i64_in _ (by omega)]; omega
            rw [hFL'] at hLs HLw2
            have hL4 : L ≤ 4096 := by omega
            rw [hd]
            clear hl hd hw hLe c7 hn hKL hFK hFL' hfr hKs
            go_wp2_with fail
            go_region_held3 (fun W => W.cell? ⟨s, 0, none⟩ = some (.pointer (some ⟨d, 0, none⟩)) ∧ W.cell? ⟨s, 1, none⟩ = some (.int .i64 (S.fr : Int)) ∧ W.cell? ⟨s, 3, none⟩ = some (.int .i64 (S.first : Int))) (first | exact ⟨x0, x1, x3⟩ | exact ⟨m0, m1, m3⟩ | exact ⟨d0, d1, d3⟩)
              (first
                | (go_at_call 118; refine (ref3_sector _ L S.first (Nat.lt_of_le_of_lt hL4 (by decide)) (Nat.lt_of_le_of_lt HFirst.out.2 (by decide)) pc (HPr.out.1.drew) HPr.out.2 HN3.out hL7).mono ?_; rintro e w1 ⟨a1, c1, rfl, g1, g2⟩; have m0 := g2.cell d0 (fun f => f); have m1 := g2.cell d1 (fun f => f); have m3 := g2.cell d3 (fun f => f); have HB1 := Lib.hid (HB0.out.upd g2.ofDrew (fun f => f)); have HO1 := Lib.hid g1; have HU1 := Lib.hid g2; clear g1 g2)
                | (go_at_call 117; refine (x_Write_at _ (HDk.out.upd HU1.out.ofDrew (fun _ _ f => f)) (i := FL') hLs (by simp) c1 HO1.out.row HO1.out.noneCap (length_sectorL (by rw [HN3.out]; exact hL7))).mono ?_; rintro e w2 ⟨rfl, F2, g1, g2, g3⟩; have b2 := HB1.out.upd g2 hsD; have x0 : w2.cell? ⟨s, 0, none⟩ = some (.pointer (some ⟨d, 0, none⟩)) := b2.cell 0; have x1 : w2.cell? ⟨s, 1, none⟩ = some (.int .i64 (S.fr : Int)) := b2.cell 1; have x3 : w2.cell? ⟨s, 3, none⟩ = some (.int .i64 (S.first : Int)) := b2.cell 3; have HG1 := Lib.hid g1; have HG2 := Lib.hid g2; have HG3 := Lib.hid g3; clear g1 g2 g3 b2))
            all_goals go_wp2_with fail
            go_meet
            have z1 := HU1.out.size
            refine ⟨_, rfl, by rw [HLw2.out]; rfl, F2, by rw [HLw2.out]; exact HG1.out, HU1.out.ofDrew.ofNil.trans HG2.out (fun k hk _ => hk), fun k hk => (HG3.out k hk).imp id (Fr.back z1 k)⟩
          · have hl : lastW S used had = [] := by rw [HLw.out, if_neg hw]
            have hd : decide (0 < K ∧ L * 112 + (S.stream.length - L * 112) < min had (K * 112)) = false := decide_eq_false hw
            have HLw2 := Lib.hid hl
            rw [hd]
            clear hl hd hw hLe c7 hn
            go_wp2_with fail
            go_meet
            exact ⟨_, rfl, by rw [HLw2.out]; rfl, FD, by rw [HLw2.out]; exact HDk.out, Upd.refl _ _, fun _ hk => .inl hk⟩
        case rest =>
          obtain ⟨bd, rfl, hbd, FD1, hr1, hu1, hf1⟩ := hcut
          have hP0 := HP0.out
          rw [hP0] at hr1 hbd
          have HBd := Lib.hid hbd
          have HR1 := Lib.hid hr1
          have HU1 := Lib.hid hu1
          have HF1 := Lib.hid hf1
          have HHh := HFi.out.le
          have hfr : S.fr + S.sectors ≤ 4096 := by have := HBf.out.le; omega
          have HKs := Lib.hid hKs
          have hmk := makeBytes (n := 128) (z := 128) rfl (by decide)
          obtain ⟨m, hm⟩ : ∃ m, S.sectors - K = m := ⟨_, rfl⟩
          have HM := Lib.hid hm
          clear hr1 hu1 hf1 hP0 hbd c7 hLe hm hn hLl hsl HPr HLt HLw HLe hh hu
          go_wp2_with fail
          go_loopg [6, 9] m (fun k bv iv wr => ∃ j : Nat, j + k = m ∧ iv = .int .i64 ((K + j : Nat) : Int) ∧ ∃ b : Bool, bv = .bool b ∧ b = decide (P0 ++ zerosL B S.fr K j ≠ []) ∧ ∃ FD', XRep FD' wr d B (P0 ++ zerosL B S.fr K j) ∧ Upd FD w wr ∧ ∀ k, FD' k → FD k ∨ Fr w wr k)
          case atStart => exact ⟨0, Nat.zero_add _, rfl, bd, rfl, by rw [HBd.out, zerosL, List.append_nil], FD1, by rw [zerosL, List.append_nil]; exact HR1.out, HU1.out, HF1.out⟩
          case round =>
            obtain ⟨j, hjk, rfl, b, rfl, hb, FD', hrep, hup, hFD⟩ := hrel
            have hm := HM.out
            have b3 := HB0.out.upd hup hsD
            have d0 : wr.cell? ⟨s, 0, none⟩ = some (.pointer (some ⟨d, 0, none⟩)) := b3.cell 0
            have d1 : wr.cell? ⟨s, 1, none⟩ = some (.int .i64 (S.fr : Int)) := b3.cell 1
            have d2 : wr.cell? ⟨s, 2, none⟩ = some (.int .i64 (S.sectors : Int)) := b3.cell 2
            have hPlen : (P0 ++ zerosL B S.fr K j).length ≤ 1 + j := by rw [List.length_append]; have := length_zerosL B S.fr j K; have := HPm.out.2; omega
            have hPmem : ∀ p ∈ P0 ++ zerosL B S.fr K j, p.1 < S.fr + (K + j) ∧ p.2.length = 128 := fun p hp => by
              rcases List.mem_append.1 hp with hp | hp
              · have := HPm.out.1 p hp; exact ⟨by omega, this.2⟩
              · have := zerosL_mem hp; exact ⟨by omega, this.2.2⟩
            have hjm : j ≤ m := by omega
            have hfine : Fine B (P0 ++ zerosL B S.fr K j) := ⟨HBf.out.pos, HBf.out.le, HBf.out.size, fun p hp => by have := hPmem p hp; exact ⟨by omega, this.2⟩⟩
            obtain ⟨PP, hPP⟩ : ∃ q, P0 ++ zerosL B S.fr K j = q := ⟨_, rfl⟩
            have HPP := Lib.hid hPP
            rw [hPP] at hrep hPlen hPmem hfine hb
            have HRep := Lib.hid hrep
            have HU := Lib.hid hup
            have HFD := Lib.hid hFD
            have HB3 := Lib.hid b3
            have HFine := Lib.hid hfine
            have HPl := Lib.hid hPlen
            have HPmem := Lib.hid hPmem
            have HJ := Lib.hid hjk
            have HB := Lib.hid hb
            obtain ⟨i, hi⟩ : ∃ i, K + j = i := ⟨_, rfl⟩
            have HI := Lib.hid hi
            have HsD' : Hid (¬ FD' s) := Lib.hid (fun q => (hFD s q).elim hsD (fun q => absurd q.1 (by have := (HL.out s HK.out.1).2.2; omega)))
            have HZw := Lib.hid hup.size
            clear hrep hup hFD b3 hfine hPlen hPmem hb hPP
            rw [hi]
            by_cases hlt : j < m
            · have hil : i < S.sectors := by omega
              have hil2 : (i : Int) < (S.sectors : Int) := by omega
              obtain ⟨FI, hFI⟩ : ∃ q, S.fr + i = q := ⟨_, rfl⟩
              have HFI := Lib.hid hFI
              have hiB : FI < B.length := by omega
              obtain ⟨X, hX⟩ : ∃ X, B.getD FI [] = X := ⟨_, rfl⟩
              have HX := Lib.hid hX
              have hX2 : X.length = 128 := by
                rw [← hX, List.getD_eq_getElem?_getD, List.getElem?_eq_getElem hiB]
                exact HBf.out.size _ (List.getElem_mem hiB)
              have HX2 := Lib.hid hX2
              have hsn : P0 ++ zerosL B S.fr K (j + 1) = PP ++ (if X = noughts128 then [] else [(FI, noughts128)]) := by
                rw [zerosL_snoc, hi, hFI, hX, ← List.append_assoc, HPP.out]
              have HSn := Lib.hid hsn
              have HLt := Lib.hid hlt
              have hi2 : i ≤ 4096 := by omega
              have t1 : IntKind.i64.wrap ((S.fr : Int) + (i : Int)) = (FI : Int) := by rw [IntWalk.i64_in _ (by omega)]; omega
              have HMiss := Lib.hid (show ∀ p ∈ PP, p.1 ≠ FI from fun p hp => by have := HPmem.out p hp; omega)
              have HPl2 : Hid (PP.length ≤ 4000000000000) := Lib.hid (by have := HPl.out; omega)
              clear hX hX2 hsn hlt hjk hi hFI hm hjm
              go_wp2_with fail
              go_region_held3 (fun W => W.cell? ⟨s, 0, none⟩ = some (.pointer (some ⟨d, 0, none⟩)) ∧ W.cell? ⟨s, 1, none⟩ = some (.int .i64 (S.fr : Int))) (first | exact ⟨m0, m1⟩ | exact ⟨d0, d1⟩)
                (first
                  | (go_at_call 109; refine (x_Read_at _ (HRep.out.upd (Upd.refl Nil wr).drew (fun _ _ f => f)) HFine.out HPl2.out hiB HMiss.out HX.out).mono ?_; rintro e w1 ⟨a1, c1, rfl, g1, g2⟩; have m0 := g2.cell d0 (fun f => f); have m1 := g2.cell d1 (fun f => f); have HO1 := Lib.hid g1; have HU1 := Lib.hid g2.ofDrew; clear g1 g2))
              all_goals go_wp2_with fail
              go_cut [92] (fun v wx => v = .bool (decide (X ≠ noughts128)) ∧ Upd Nil w1 wx)
              case first =>
                have hcv : ∀ W, Upd Nil w1 W → (convert 22 9 (.slice a1 128 c1)).run Tryd.prog W = .ok (.string (str X)) W := fun W u => by
                  have := run_convert_Row (P := Tryd.prog) (HO1.out.row.keep u) 22 5 9 Tryd.underlying22 Tryd.underlying5 Tryd.underlying9 c1
                  rwa [HX2.out] at this
                have cv1 := hcv w1.drew (Upd.refl Nil w1).drew
                have cv2 := hcv (w1.alloc (.cells (Array.replicate 128 (Value.int .u8 0)) 5)).drew ((Upd.refl Nil w1).alloc _).drew
                have cv3 : (convert 22 9 (.slice (some ⟨w1.heap.size, 0, none⟩) 128 128)).run Tryd.prog (w1.alloc (.cells (Array.replicate 128 (Value.int .u8 0)) 5)).drew = .ok (.string (str noughts128)) (w1.alloc (.cells (Array.replicate 128 (Value.int .u8 0)) 5)).drew :=
                  run_convert_Row (P := Tryd.prog) (xs := noughts128) (own_zeros w1 (n := 128) (by decide)).drew.row 22 5 9 Tryd.underlying22 Tryd.underlying5 Tryd.underlying9 128
                clear hcv d0 d1 d2 m0 m1
                go_region
                all_goals go_wp2_with fail
                all_goals go_meet
                all_goals
                  refine ⟨congrArg Value.bool ?_, ((Upd.refl Nil w1).alloc _).drew⟩
                  rw [str_toList, str_toList]
                  by_cases he : X = noughts128
                  · rw [decide_eq_false (fun h => h he), he]; simp
                  · rw [decide_eq_true he]; simp [he]
              case rest =>
                obtain ⟨rfl, hwc⟩ := hcut
                have HWc := Lib.hid hwc
                have y0 := hwc.cell m0 (fun f => f)
                have y1 := hwc.cell m1 (fun f => f)
                clear hwc d0 d1 d2 m0 m1
                by_cases hx : X = noughts128
                · have hd : decide (X ≠ noughts128) = false := decide_eq_false (fun h => h hx)
                  rw [hd]
                  have HXx := Lib.hid hx
                  clear hd hx y0 y1
                  go_wp2_with fail
                  go_roundg (gk - 1)
                  · have hj := HJ.out
                    have hl := HLt.out
                    have uu := HU1.out.trans HWc.out (fun _ f _ => f)
                    have e1 : P0 ++ zerosL B S.fr K (j + 1) = PP := by rw [HSn.out, if_pos HXx.out, List.append_nil]
                    exact ⟨j + 1, by omega, by have := HI.out; go_num, b, rfl, by rw [e1]; exact HB.out, FD', by rw [e1]; exact HRep.out.upd uu (fun _ _ f => f), HU.out.trans uu (fun _ f _ => f.elim), fun k hk => (HFD.out k hk).imp id (Fr.on uu.size k)⟩
                  · have := HJ.out; have := HLt.out; omega
                · have hd : decide (X ≠ noughts128) = true := decide_eq_true hx
                  rw [hd]
                  have HXx := Lib.hid hx
                  clear hd hx
                  have z1 := HU1.out.size
                  have zw := HWc.out.size
                  go_wp2_with fail
                  go_region_held3 (fun W => W.cell? ⟨s, 0, none⟩ = some (.pointer (some ⟨d, 0, none⟩)) ∧ W.cell? ⟨s, 1, none⟩ = some (.int .i64 (S.fr : Int))) (first | exact ⟨x0, x1⟩ | exact ⟨y0, y1⟩ | exact ⟨(((Upd.refl Nil _).alloc _).drew).cell y0 (fun f => f), (((Upd.refl Nil _).alloc _).drew).cell y1 (fun f => f)⟩)
                    (first
                      | (go_at_call 117; refine (x_Write_at _ (HRep.out.upd ((HU1.out.trans HWc.out (fun _ f _ => f)).alloc _).drew (fun _ _ f => f)) (i := FI) hiB HPl2.out 128 (xs := noughts128) (own_zeros _ (n := 128) (by decide)).drew.row (fun h => by cases h) length_noughts128).mono ?_; rintro e w3 ⟨rfl, F3, g1, g2, g3⟩; have b2 := (HB3.out.upd ((HU1.out.trans HWc.out (fun _ f _ => f)).alloc (.cells (Array.replicate 128 (Value.int .u8 0)) 5)).drew (fun f => f)).upd g2 HsD'.out; have x0 : w3.cell? ⟨s, 0, none⟩ = some (.pointer (some ⟨d, 0, none⟩)) := b2.cell 0; have x1 : w3.cell? ⟨s, 1, none⟩ = some (.int .i64 (S.fr : Int)) := b2.cell 1; have HG1 := Lib.hid g1; have HG2 := Lib.hid g2; have HG3 := Lib.hid g3; clear g1 g2 g3 b2))
                  all_goals go_wp2_with fail
                  go_roundg (gk - 1)
                  · have hj := HJ.out
                    have hl := HLt.out
                    have e1 : P0 ++ zerosL B S.fr K (j + 1) = PP ++ [(FI, noughts128)] := by rw [HSn.out, if_neg HXx.out]
                    have uu := ((HU1.out.trans HWc.out (fun _ f _ => f)).alloc (.cells (Array.replicate 128 (Value.int .u8 0)) 5)).drew
                    have zz := uu.size
                    have z2 := HG2.out.size
                    have z3 := HZw.out
                    refine ⟨j + 1, by omega, by have := HI.out; go_num, true, rfl, ?_, F3, by rw [e1]; exact HG1.out, ?_, fun k hk => ?_⟩
                    · rw [e1]
                      exact (decide_eq_true (by simp)).symm
                    · exact (HU.out.trans uu (fun _ f _ => f.elim)).trans HG2.out (fun k hk hlt => (HFD.out k hk).elim id (fun q => absurd q.1 (by omega)))
                    · rcases HG3.out k hk with q | q
                      · exact (HFD.out k q).imp id (Fr.on (Nat.le_trans zz z2) k)
                      · exact .inr (Fr.back (Nat.le_trans z3 zz) k q)
                  · have := HJ.out; have := HLt.out; omega
            · have hil : S.sectors ≤ i := by omega
              have hjm2 : j = m := by omega
              have hil2 : (S.sectors : Int) ≤ (i : Int) := by omega
              clear hjk hi
              have hF' : ∀ W : World, wr.heap.size ≤ W.heap.size → ∀ k, FD' k → FD k ∨ Fr w W k := fun W hW k hk => (HFD.out k hk).imp id (fun q => Fr.on hW k q)
              have HF' := Lib.hid hF'
              clear hF'
              obtain ⟨k1, k2, k3, k4⟩ := HK.out
              have HLR : Hid (∀ W : World, Upd FD' wr W → Blk W s 157 (logCells d S a c) → LRep 157 false FL W s d S) := Lib.hid (fun W u bW => ⟨R, a, c, k1, fun k hk => ⟨(k2 k hk).1, (k2 k hk).2.1, by have := (k2 k hk).2.2; have := HZw.out; have := u.size; omega⟩, bW, (k4.upd HU.out (fun k hk => (HL.out k (k2 k hk).1).2.1)).upd u (fun k hk q => (HFD.out k q).elim (HL.out k (k2 k hk).1).2.1 (fun q => absurd q.1 (by have := (k2 k hk).2.2; omega)))⟩)
              clear k1 k2 k3 k4
              rcases b with _ | _
              · have hnil : PP = [] := Classical.byContradiction (fun h => by
                  have h2 := of_decide_eq_false HB.out.symm
                  exact h2 h)
                have HNil := Lib.hid hnil
                clear hnil
                go_wp2_with fail
                go_end0
                have e1 : P0 ++ zerosL B S.fr K m = [] := by rw [← hjm2, HPP.out]; exact HNil.out
                rw [HM.out, e1]
                have hrp := HRep.out
                rw [HNil.out] at hrp
                exact LDGot.disk H0.out HL.out HD.out (HLR.out _ (Upd.refl _ _) HB3.out) hrp (HU.out.mono (fun k hk => (HD.out k hk).1)) (HF'.out _ (Nat.le_refl _))
              · go_wp2_with (go_at_call 119; refine (x_Flush _ HRep.out HFine.out (by have := HPl.out; omega)).mono ?_; rintro e w2 ⟨rfl, F2, g1, g2, g3⟩; have HG1 := Lib.hid g1; have HG2 := Lib.hid g2; have HG3 := Lib.hid g3; clear g1 g2 g3)
                go_end0
                have hg1 := HG1.out
                have hpp := HPP.out
                rw [hjm2] at hpp
                rw [← hpp] at hg1
                rw [HM.out]
                have z1 := HG2.out.size
                have z2 := HZw.out
                refine LDGot.disk H0.out HL.out HD.out (HLR.out _ HG2.out (HB3.out.upd HG2.out HsD'.out)) hg1 ?_ (fun k hk => ?_)
                · exact (HU.out.trans HG2.out (fun k hk hlt => (HF'.out wr (Nat.le_refl _) k hk).elim id (fun q => absurd q.1 (by omega)))).mono (fun k hk => (HD.out k hk).1)
                · rcases HG3.out k hk with q | q
                  · exact HF'.out w2 z1 k q
                  · exact .inr (Fr.back z2 k q)
end Go.Proofs.YtbaombnnagidcaaDoor
