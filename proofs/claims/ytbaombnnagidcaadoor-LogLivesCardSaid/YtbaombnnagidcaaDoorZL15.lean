/- The program's log: clean. -/
import Derived.Test.YtbaombnnagidcaaDoorZL14
import Derived.Deep.DeepCutAuto

namespace Go.Proofs.YtbaombnnagidcaaDoor
open Go.RowKit

abbrev noughts128 : List UInt8 := zerosL.noughts128
theorem zerosL_snoc (B : List (List UInt8)) (fr : Nat) : ∀ (m j : Nat), zerosL B fr j (m + 1) = zerosL B fr j m ++ (if B.getD (fr + (j + m)) [] = noughts128 then [] else [(fr + (j + m), noughts128)])
  | 0, j => by simp [zerosL]
  | m + 1, j => by
    rw [zerosL, zerosL_snoc B fr m (j + 1), zerosL, ← List.append_assoc, show j + 1 + m = j + (m + 1) from by omega]
theorem length_noughts128 : noughts128.length = 128 := List.length_replicate
theorem zerosL_mem {B : List (List UInt8)} {fr : Nat} : ∀ {m j : Nat} {p : Snt}, p ∈ zerosL B fr j m → fr + j ≤ p.1 ∧ p.1 < fr + (j + m) ∧ p.2.length = 128
  | 0, _, _, h => by cases h
  | m + 1, j, p, h => by
    rw [zerosL] at h
    rcases List.mem_append.1 h with h | h
    · split at h
      · cases h
      · rw [List.mem_singleton.1 h]
        exact ⟨Nat.le_refl _, by show fr + j < _; omega, length_noughts128⟩
    · have := zerosL_mem h
      exact ⟨by omega, by omega, this.2.2⟩
theorem length_zerosL (B : List (List UInt8)) (fr : Nat) : ∀ (m j : Nat), (zerosL B fr j m).length ≤ m
  | 0, _ => Nat.le_refl _
  | m + 1, j => by
    have := length_zerosL B fr m (j + 1)
    rw [zerosL, List.length_append]
    split <;> simp <;> omega
/-- the write of the sector in which the last record ends -/
def lastW (S : LogS) (used had : Nat) : List Snt :=
  if 0 < used ∧ S.durable < min had (((S.durable - 1) / 112 + 1) * 112) then [(S.fr + (S.durable - 1) / 112, sectorL ((S.durable - 1) / 112) S.first (S.stream.drop ((S.durable - 1) / 112 * 112)))] else []
/-- what clean writes -/
def cleanW (S : LogS) (B : List (List UInt8)) (used had : Nat) : List Snt :=
  lastW S used had ++ zerosL B S.fr (min used ((S.durable - 1) / 112 + 1)) (S.sectors - min used ((S.durable - 1) / 112 + 1))
/-- what clean asks of a log -/
structure CFine (S : LogS) (B : List (List UInt8)) (used had : Nat) : Prop where
  pos : 1 ≤ S.sectors
  le : S.fr + S.sectors ≤ B.length
  durable : S.durable = S.stream.length
  durable2 : S.durable ≤ had
  had : had ≤ used * 112
  used : used ≤ S.sectors
  first : 1 ≤ S.first
  first2 : S.first ≤ 4611686018427387904

theorem lastW_mem {S : LogS} {B : List (List UInt8)} {used had : Nat} (h : CFine S B used had) {p : Snt} (hp : p ∈ lastW S used had) : p.1 < S.fr + min used ((S.durable - 1) / 112 + 1) ∧ p.2.length = 128 := by
  unfold lastW at hp
  split at hp
  · rename_i hc
    have h1 := h.durable
    have h2 := h.durable2
    have h3 := h.had
    rw [List.mem_singleton.1 hp]
    refine ⟨by show S.fr + (S.durable - 1) / 112 < _; omega, length_sectorL ?_⟩
    rw [List.length_drop]
    omega
  · cases hp
theorem bytesEqual_at {F G : Nat → Prop} (w : World) {a b : Option Addr} (c d : Nat) {xs ys : List UInt8} {n m : Nat} (hx : Row F w a (bvs xs)) (hy : Row G w b (bvs ys)) (hn : xs.length = n) (hm : ys.length = m) :
    Calls Tryd.prog 16 #[.slice a n c, .slice b m d] w fun e w' => e = .returned (.bool (decide (xs = ys))) ∧ w = w' := by
  subst hn; subst hm
  exact bytesEqual w c d hx hy

/-- a read of a sector that no pending write goes to -/
theorem disk_Read_at {F : Nat → Prop} (w : World) {s : Nat} {B : List (List UInt8)} {P : List Snt} (h : DiskRep F w s B P) (hf : Fine B P) (hP : P.length ≤ 4000000000000) {i : Nat} (hi : i < B.length) (hm : ∀ p ∈ P, p.1 ≠ i) {X : List UInt8} (hX : B.getD i [] = X) :
    Calls Tryd.prog 71 #[.pointer (some ⟨s, 0, none⟩), .int .i64 i] w fun e w' => ∃ a c, e = .returned (.tuple #[.slice a 128 c, .int .i64 0]) ∧ Own (Fr w w') w' 5 1 a 128 c (bvs X) ∧ Upd Nil w w' := by
  have h1 := disk_Read_yes w h hf hP hi
  have h2 : readOf B P i hi = X := by
    rw [readOf_miss hi (fun j hj => hm _ (List.getElem_mem hj)), ← hX, List.getD_eq_getElem?_getD, List.getElem?_eq_getElem hi]
    rfl
  have h3 : X.length = 128 := by
    rw [← hX, List.getD_eq_getElem?_getD, List.getElem?_eq_getElem hi]
    exact hf.size _ (List.getElem_mem hi)
  rw [h2] at h1
  refine h1.mono ?_
  rintro e w' ⟨a, c, he, g1, g2⟩
  rw [h3] at he g1
  exact ⟨a, c, he, g1, g2⟩

set_option maxRecDepth 100000 in
set_option maxHeartbeats 8000000 in
theorem log_clean {F : Nat → Prop} (w : World) {s d : Nat} {S : LogS} {B : List (List UInt8)} (h : LogLD F w s d S B []) {used had : Nat} (hf : CFine S B used had) (hB : Fine B []) (tab : Tab w) :
    Calls Tryd.prog 74 #[.pointer (some ⟨s, 0, none⟩), .int .i64 (used : Int), .int .i64 (had : Int)] w (LogLDGot F w s d (.int .i64 0) S (applyP B (cleanW S B used had)) []) := by
  have HLD := Lib.hid h
  have HFi := Lib.hid hf
  have HBf := Lib.hid hB
  have HT := Lib.hid tab
  obtain ⟨h0, FL, FD, hL, hD, hl, hd⟩ := h
  obtain ⟨R, a, c, k1, k2, k3, k4⟩ := hl
  have hsD : ¬ FD s := (hL s k1).2.1
  have hn : S.durable ≤ 458752 := by have := hf.durable2; have := hf.had; have := hf.used; have := hf.le; have := hB.le; omega
  have hh : had ≤ 458752 := by have := hf.had; have := hf.used; have := hf.le; have := hB.le; omega
  have hu : used ≤ 4096 := by have := hf.used; have := hf.le; have := hB.le; omega
  have hmk := makeBytes (n := 128) (z := 128) rfl (by decide) w
  obtain ⟨W0, hW0⟩ : ∃ W0, w.alloc (.cells (Array.replicate 128 (Value.int .u8 0)) 5) = W0 := ⟨_, rfl⟩
  have hZ := own_zeros w (n := 128) (by decide)
  rw [hW0] at hmk hZ
  have b3 : Blk W0 s 69 (logCells d S a c) := by rw [← hW0]; exact k3.alloc _
  have u0 : Upd Nil w W0 := by rw [← hW0]; exact (Upd.refl Nil w).alloc _
  have z0 : W0.heap.size = w.heap.size + 1 := by rw [← hW0]; simp
  have c7 : W0.cell? ⟨s, 7, none⟩ = some (.int .i64 (S.durable : Int)) := b3.cell 7
  have HL := Lib.hid hL
  have HD := Lib.hid hD
  have HDk := Lib.hid hd
  have HK := Lib.hid (And.intro k1 (And.intro k2 (And.intro k3 k4)))
  have H0 := Lib.hid h0
  have HB0 := Lib.hid b3
  have HU0 := Lib.hid u0
  have HZ := Lib.hid hZ
  have HZ0 := Lib.hid z0
  obtain ⟨L, hLe⟩ : ∃ L, (S.durable - 1) / 112 = L := ⟨_, rfl⟩
  have HLe := Lib.hid hLe
  obtain ⟨P0, hP0⟩ : ∃ P, lastW S used had = P := ⟨_, rfl⟩
  obtain ⟨K, hK⟩ : ∃ K, min used (L + 1) = K := ⟨_, rfl⟩
  have hPm : (∀ p ∈ P0, p.1 < S.fr + K ∧ p.2.length = 128) ∧ P0.length ≤ 1 := by
    refine ⟨fun p hp => ?_, ?_⟩
    · rw [← hP0] at hp
      have := lastW_mem hf hp
      rwa [hLe, hK] at this
    · rw [← hP0, lastW]
      split
      · exact Nat.le_refl _
      · exact Nat.zero_le _
  have hcw : cleanW S B used had = P0 ++ zerosL B S.fr K (S.sectors - K) := by rw [cleanW, hP0, hLe, hK]
  rw [hcw]
  have HPm := Lib.hid hPm
  have HP0 := Lib.hid hP0
  have HK0 := Lib.hid hK
  clear hPm hP0 hcw hK
  clear hf hB tab hL hD hd k1 k2 k3 k4 h0 hW0 hZ b3 u0 z0
  go_enter Tryd.func74, Tryd.ntmps74
  go_upto_region 3 with fail
  go_cut [9] (fun l wx => l = .int .i64 (L : Int) ∧ wx = W0)
  case first =>
    rcases Nat.eq_zero_or_pos S.durable with hz | hz
    · have e1 : IntKind.i64.wrap ((S.durable : Int) - 1) = -1 := by rw [hz]; rfl
      have e2 : L = 0 := by omega
      go_wp2_with fail
      go_meet
      exact ⟨congrArg (Value.int .i64) (by omega), rfl⟩
    · go_wp2_with fail
      all_goals go_meet
      all_goals first
        | exact ⟨congrArg (Value.int .i64) (by omega), rfl⟩
        | exact ⟨congrArg (Value.int .i64) (by rw [Int.tdiv_eq_ediv_of_nonneg (by omega)]; omega), rfl⟩
  case rest =>
    obtain ⟨rfl, e0⟩ := hcut
    have e1 := e0.symm
    subst e1
    clear e0
    go_upto_region 4 with fail
    go_cut [36] (fun v wx => v = .bool (decide (0 < used ∧ S.durable < min had ((L + 1) * 112))) ∧ wx = W0)
    case first =>
      rcases Nat.eq_zero_or_pos used with hz | hz
      · go_wp2_with fail
        all_goals go_meet
        all_goals exact ⟨congrArg Value.bool (decide_eq_false (by omega)).symm, rfl⟩
      · go_wp2_with fail
        all_goals go_meet
        all_goals exact ⟨congrArg Value.bool (decide_eq_decide.2 (by omega)), rfl⟩
    case rest =>
      obtain ⟨rfl, e0⟩ := hcut
      have e1 := e0.symm
      subst e1
      clear e0
      go_upto_if 36 with fail
      go_cut [8] (fun v wx => ∃ b : Bool, v = .bool b ∧ b = decide (lastW S used had ≠ []) ∧ ∃ FD1, DiskRep FD1 wx d B (lastW S used had) ∧ Upd FD W0 wx ∧ ∀ k, FD1 k → FD k ∨ Fr W0 wx k)
      case first =>
        by_cases hw : 0 < used ∧ S.durable < min had ((L + 1) * 112)
        · have hl : lastW S used had = [(S.fr + L, sectorL L S.first (S.stream.drop (L * 112)))] := by rw [← HLe.out] at hw ⊢; exact if_pos hw
          have hd : decide (0 < used ∧ S.durable < min had ((L + 1) * 112)) = true := decide_eq_true hw
          obtain ⟨k1, k2, k3, k4⟩ := HK.out
          have d0 : W0.cell? ⟨s, 0, none⟩ = some (.pointer (some ⟨d, 0, none⟩)) := HB0.out.cell 0
          have d1 : W0.cell? ⟨s, 1, none⟩ = some (.int .i64 (S.fr : Int)) := HB0.out.cell 1
          have d3 : W0.cell? ⟨s, 3, none⟩ = some (.int .i64 (S.first : Int)) := HB0.out.cell 3
          have d6 : W0.cell? ⟨s, 6, none⟩ = some (.slice a S.stream.length c) := HB0.out.cell 6
          have HRow := Lib.hid (k4.1.keep HU0.out)
          have hlc : S.stream.length ≤ c := k4.2.2.1
          have hcm : c ≤ maxLen := k4.2.2.2.1
          have hac : a = none → c = 0 := k4.2.1
          have htab := HT.out.upd HU0.out (fun f => f)
          have HTab := Lib.hid htab
          have hdu := HFi.out.durable
          have hL6 : L * 112 ≤ S.stream.length := by omega
          have hL7 : S.stream.length - L * 112 ≤ 112 := by omega
          have hLs : S.fr + L < B.length := by have := HFi.out.le; have := HFi.out.had; have := HFi.out.used; have := HFi.out.pos; omega
          have hfr : S.fr + L ≤ 4096 := by have := HBf.out.le; omega
          have s1 : IntKind.i64.wrap ((S.fr : Int) + (L : Int)) = ((S.fr + L : Nat) : Int) := by rw [IntWalk.i64_in _ (by omega)]; rfl
          have s2 : IntKind.i64.wrap ((L : Int) * 112) = ((L * 112 : Nat) : Int) := by rw [IntWalk.i64_in _ (by omega)]; rfl
          have hne : ∀ k, FD k → k ≠ s := fun k hk e => hsD (by rw [← e]; exact hk)
          have HDW := Lib.hid (HDk.out.upd HU0.out (fun _ _ f => f))
          have HNe := Lib.hid hne
          have HFirst := Lib.hid (And.intro HFi.out.first HFi.out.first2)
          rw [hd]
          rcases Nat.eq_zero_or_pos c with hz | hz
          · have hL0 : L = 0 := by omega
            have hs0 : S.stream.length = 0 := by omega
            have hs1 : S.stream = [] := List.eq_nil_of_length_eq_zero hs0
            subst hL0; subst hz
            rw [hs0] at d6
            rw [hs1, List.drop_nil] at hl
            have HLw := Lib.hid hl
            have q0 : IntKind.i64.wrap 0 = 0 := rfl
            have q1 : IntKind.i64.wrap (S.fr : Int) = (S.fr : Int) := IntWalk.i64_in _ (by omega)
            clear htab hne k1 k2 k3 k4 c7 hmk hLe hd hw hs1 hl
            rcases a with _ | aa
            · go_wp2_with fail
              go_region_held3 (fun W => W.cell? ⟨s, 0, none⟩ = some (.pointer (some ⟨d, 0, none⟩)) ∧ W.cell? ⟨s, 1, none⟩ = some (.int .i64 (S.fr : Int)) ∧ W.cell? ⟨s, 3, none⟩ = some (.int .i64 (S.first : Int)) ∧ W.cell? ⟨s, 6, none⟩ = some (.slice none 0 0)) (first | exact ⟨x0, x1, x3, x6⟩ | exact ⟨m0, m1, m3, m6⟩ | exact ⟨d0, d1, d3, d6⟩)
                (first
                  | (go_at_call 77; refine (log_sector (F := Nil) (load := []) (n := 0) _ 0 S.first (by omega) (by have := HFirst.out.2; omega) 0 (Row.nil _ _ _) (fun _ => rfl) (Nat.le_refl _) (Nat.zero_le _) rfl (Nat.zero_le _) (HTab.out.upd (Upd.refl Nil W0).drew (fun f => f))).mono ?_; rintro e w1 ⟨a1, c1, rfl, g1, g2⟩; have m0 := g2.cell d0 (fun f => f); have m1 := g2.cell d1 (fun f => f); have m3 := g2.cell d3 (fun f => f); have m6 := g2.cell d6 (fun f => f); have HB1 := Lib.hid (HB0.out.upd g2.ofDrew (fun f => f)); have HO1 := Lib.hid g1; have HU1 := Lib.hid g2; clear g1 g2)
                  | (go_at_call 76; refine (disk_Write_at _ (HDW.out.upd HU1.out.ofDrew (fun _ _ f => f)) (i := S.fr) (by omega) (by simp) c1 HO1.out.row (length_sectorL (Nat.zero_le _))).mono ?_; rintro e w2 ⟨rfl, F2, g1, g2, g3⟩; have b2 := HB1.out.upd g2 hsD; have x0 : w2.cell? ⟨s, 0, none⟩ = some (.pointer (some ⟨d, 0, none⟩)) := b2.cell 0; have x1 : w2.cell? ⟨s, 1, none⟩ = some (.int .i64 (S.fr : Int)) := b2.cell 1; have x3 : w2.cell? ⟨s, 3, none⟩ = some (.int .i64 (S.first : Int)) := b2.cell 3; have x6 : w2.cell? ⟨s, 6, none⟩ = some (.slice none 0 0) := (b2.cell 6).trans (by rw [← hs0]; rfl); have HG1 := Lib.hid g1; have HG2 := Lib.hid g2; have HG3 := Lib.hid g3; clear g1 g2 g3 b2))
              all_goals go_wp2_with fail
              go_meet
              have z1 := HU1.out.size
              refine ⟨_, rfl, by rw [HLw.out]; rfl, F2, by rw [HLw.out]; exact HG1.out, HU1.out.ofDrew.ofNil.trans HG2.out (fun k hk _ => hk), fun k hk => (HG3.out k hk).imp id (Fr.back z1 k)⟩
            · go_wp2_with fail
              go_region_held3 (fun W => W.cell? ⟨s, 0, none⟩ = some (.pointer (some ⟨d, 0, none⟩)) ∧ W.cell? ⟨s, 1, none⟩ = some (.int .i64 (S.fr : Int)) ∧ W.cell? ⟨s, 3, none⟩ = some (.int .i64 (S.first : Int)) ∧ W.cell? ⟨s, 6, none⟩ = some (.slice (some aa) 0 0)) (first | exact ⟨x0, x1, x3, x6⟩ | exact ⟨m0, m1, m3, m6⟩ | exact ⟨d0, d1, d3, d6⟩)
                (first
                  | (go_at_call 77; refine (log_sector (F := Nil) (load := []) (n := 0) _ 0 S.first (by omega) (by have := HFirst.out.2; omega) 0 (Row.nil _ _ _) (fun _ => rfl) (Nat.le_refl _) (Nat.zero_le _) rfl (Nat.zero_le _) (HTab.out.upd (Upd.refl Nil W0).drew (fun f => f))).mono ?_; rintro e w1 ⟨a1, c1, rfl, g1, g2⟩; have m0 := g2.cell d0 (fun f => f); have m1 := g2.cell d1 (fun f => f); have m3 := g2.cell d3 (fun f => f); have m6 := g2.cell d6 (fun f => f); have HB1 := Lib.hid (HB0.out.upd g2.ofDrew (fun f => f)); have HO1 := Lib.hid g1; have HU1 := Lib.hid g2; clear g1 g2)
                  | (go_at_call 76; refine (disk_Write_at _ (HDW.out.upd HU1.out.ofDrew (fun _ _ f => f)) (i := S.fr) (by omega) (by simp) c1 HO1.out.row (length_sectorL (Nat.zero_le _))).mono ?_; rintro e w2 ⟨rfl, F2, g1, g2, g3⟩; have b2 := HB1.out.upd g2 hsD; have x0 : w2.cell? ⟨s, 0, none⟩ = some (.pointer (some ⟨d, 0, none⟩)) := b2.cell 0; have x1 : w2.cell? ⟨s, 1, none⟩ = some (.int .i64 (S.fr : Int)) := b2.cell 1; have x3 : w2.cell? ⟨s, 3, none⟩ = some (.int .i64 (S.first : Int)) := b2.cell 3; have x6 : w2.cell? ⟨s, 6, none⟩ = some (.slice (some aa) 0 0) := (b2.cell 6).trans (by rw [← hs0]; rfl); have HG1 := Lib.hid g1; have HG2 := Lib.hid g2; have HG3 := Lib.hid g3; clear g1 g2 g3 b2))
              all_goals go_wp2_with fail
              go_meet
              have z1 := HU1.out.size
              refine ⟨_, rfl, by rw [HLw.out]; rfl, F2, by rw [HLw.out]; exact HG1.out, HU1.out.ofDrew.ofNil.trans HG2.out (fun k hk _ => hk), fun k hk => (HG3.out k hk).imp id (Fr.back z1 k)⟩
          · obtain ⟨ab, ao, rfl⟩ : ∃ b o, a = some ⟨b, o, none⟩ := by
              rcases Nat.eq_zero_or_pos S.stream.length with q | q
              · rcases k4.2.2.2.2 rfl with q2 | q2
                · rcases q2.2 with q3 | ⟨g, _, e, _⟩
                  · omega
                  · exact ⟨g, 0, e⟩
                · omega
              · obtain ⟨b, o, e, _⟩ := k4.1 (fun e => by have e2 := congrArg List.length e; rw [length_bvs, List.length_nil] at e2; omega)
                exact ⟨b, o, e⟩
            have hlt : L * 112 < c := by omega
            obtain ⟨n, hn⟩ : ∃ n, S.stream.length - L * 112 = n := ⟨_, rfl⟩
            have hrow : Row R W0 (some ⟨ab, ao + L * 112, none⟩) (bvs (S.stream.drop (L * 112))) := by
              have := HRow.out.dropAt (L * 112) c (by rw [length_bvs]; exact hL6) (by rw [length_bvs]; exact hlc)
              rw [if_neg (by omega)] at this
              simpa [bvs, List.map_drop] using this
            have HRow2 := Lib.hid hrow
            have HN3 := Lib.hid (show (S.stream.drop (L * 112)).length = n by rw [List.length_drop]; exact hn)
            have hn7 : n ≤ 112 := by omega
            have hn8 : n ≤ c - L * 112 := by omega
            have HLw := Lib.hid hl
            have hL8 : (L : Int) * 112 ≤ (S.stream.length : Int) := by omega
            have hlt2 : (L : Int) * 112 < (c : Int) := by omega
            have hlt3 : ¬ c = L * 112 := by omega
            have q0 : (0 : Int) ≤ (L : Int) * 112 := by omega
            have q1 : ((L : Int) * 112).toNat = L * 112 := by omega
            have hlt4 : ¬ c - L * 112 = 0 := by omega
            clear htab hne k1 k2 k3 k4 c7 hmk hLe hd hw hl hrow hdu hL7
            go_wp2_with fail
            go_region_held3 (fun W => W.cell? ⟨s, 0, none⟩ = some (.pointer (some ⟨d, 0, none⟩)) ∧ W.cell? ⟨s, 1, none⟩ = some (.int .i64 (S.fr : Int)) ∧ W.cell? ⟨s, 3, none⟩ = some (.int .i64 (S.first : Int)) ∧ W.cell? ⟨s, 6, none⟩ = some (.slice (some ⟨ab, ao, none⟩) S.stream.length c)) (first | exact ⟨x0, x1, x3, x6⟩ | exact ⟨m0, m1, m3, m6⟩ | exact ⟨d0, d1, d3, d6⟩)
              (first
                | (go_at_call 77; refine (log_sector _ L S.first (by omega) (by have := HFirst.out.2; omega) (c - L * 112) HRow2.out.drew (fun e => by cases e) (by rw [HN3.out]; exact hn8) (by omega) HN3.out hn7 (HTab.out.upd (Upd.refl Nil W0).drew (fun f => f))).mono ?_; rintro e w1 ⟨a1, c1, rfl, g1, g2⟩; have m0 := g2.cell d0 (fun f => f); have m1 := g2.cell d1 (fun f => f); have m3 := g2.cell d3 (fun f => f); have m6 := g2.cell d6 (fun f => f); have HB1 := Lib.hid (HB0.out.upd g2.ofDrew (fun f => f)); have HO1 := Lib.hid g1; have HU1 := Lib.hid g2; clear g1 g2)
                | (go_at_call 76; refine (disk_Write_at _ (HDW.out.upd HU1.out.ofDrew (fun _ _ f => f)) (i := S.fr + L) hLs (by simp) c1 HO1.out.row (length_sectorL (by rw [HN3.out]; exact hn7))).mono ?_; rintro e w2 ⟨rfl, F2, g1, g2, g3⟩; have b2 := HB1.out.upd g2 hsD; have x0 : w2.cell? ⟨s, 0, none⟩ = some (.pointer (some ⟨d, 0, none⟩)) := b2.cell 0; have x1 : w2.cell? ⟨s, 1, none⟩ = some (.int .i64 (S.fr : Int)) := b2.cell 1; have x3 : w2.cell? ⟨s, 3, none⟩ = some (.int .i64 (S.first : Int)) := b2.cell 3; have x6 : w2.cell? ⟨s, 6, none⟩ = some (.slice (some ⟨ab, ao, none⟩) S.stream.length c) := b2.cell 6; have HG1 := Lib.hid g1; have HG2 := Lib.hid g2; have HG3 := Lib.hid g3; clear g1 g2 g3 b2))
            all_goals go_wp2_with fail
            go_meet
            have z1 := HU1.out.size
            refine ⟨_, rfl, by rw [HLw.out]; rfl, F2, by rw [HLw.out]; exact HG1.out, HU1.out.ofDrew.ofNil.trans HG2.out (fun k hk _ => hk), fun k hk => (HG3.out k hk).imp id (Fr.back z1 k)⟩
        · have hl : lastW S used had = [] := by rw [← HLe.out] at hw; exact if_neg hw
          have hd : decide (0 < used ∧ S.durable < min had ((L + 1) * 112)) = false := decide_eq_false hw
          rw [hd]
          have HLw := Lib.hid hl
          clear hl hd hw
          go_wp2_with fail
          go_meet
          exact ⟨_, rfl, by rw [HLw.out]; rfl, FD, by rw [HLw.out]; exact HDk.out.upd HU0.out (fun _ _ f => f), Upd.refl _ _, fun _ hk => .inl hk⟩
      case rest =>
        obtain ⟨bd, rfl, hbd, FD1, hr1, hu1, hf1⟩ := hcut
        have b1 := HB0.out.upd hu1 hsD
        have d1 : wc.cell? ⟨s, 1, none⟩ = some (.int .i64 (S.fr : Int)) := b1.cell 1
        have hP0 := HP0.out
        have hK := HK0.out
        rw [hP0] at hr1 hbd
        have HBd := Lib.hid hbd
        have hL9 : L ≤ 4096 := by omega
        have HR1 := Lib.hid hr1
        have HU1 := Lib.hid hu1
        have HF1 := Lib.hid hf1
        have HB1 := Lib.hid b1
        have HHh := HFi.out.le
        have hfr : S.fr + S.sectors ≤ 4096 := by have := HBf.out.le; omega
        have hKs : K ≤ S.sectors := by have := HFi.out.used; omega
        clear hr1 hu1 hf1 b1 hP0 hbd c7 hmk hLe
        go_upto_region 9 with fail
        go_cut [11] (fun v wx => v = .int .i64 ((S.fr + K : Nat) : Int) ∧ wx = wc)
        case first =>
          go_wp2_with fail
          all_goals go_meet
          all_goals exact ⟨congrArg (Value.int .i64) (by omega), rfl⟩
        case rest =>
          obtain ⟨rfl, e0⟩ := hcut
          have e1 := e0.symm
          subst e1
          clear e0 hK
          go_wp2_with fail
          obtain ⟨m, hm⟩ : ∃ m, S.sectors - K = m := ⟨_, rfl⟩
          rw [hm]
          have HZx := Lib.hid (show Own (One w.heap.size) W0 5 1 (some ⟨w.heap.size, 0, none⟩) 128 128 (bvs noughts128) from HZ.out)
          have HFDw : Hid (∀ k, FD k → k ≠ w.heap.size) := Lib.hid (fun k hk e => absurd (HD.out k hk).2 (by omega))
          clear d1
          go_loopg [8, 11] m (fun k bv iv wr => ∃ j : Nat, j + k = m ∧ iv = .int .i64 ((S.fr + K + j : Nat) : Int) ∧ ∃ b : Bool, bv = .bool b ∧ b = decide (P0 ++ zerosL B S.fr K j ≠ []) ∧ ∃ FD', DiskRep FD' wr d B (P0 ++ zerosL B S.fr K j) ∧ Upd FD W0 wr ∧ ∀ k, FD' k → FD k ∨ Fr W0 wr k)
          case atStart => exact ⟨0, by omega, rfl, bd, rfl, by rw [HBd.out, zerosL, List.append_nil], FD1, by rw [zerosL, List.append_nil]; exact HR1.out, HU1.out, HF1.out⟩
          case round =>
            obtain ⟨j, hjk, rfl, b, rfl, hb, FD', hrep, hup, hFD⟩ := hrel
            have b3 := HB0.out.upd hup hsD
            have d0 : wr.cell? ⟨s, 0, none⟩ = some (.pointer (some ⟨d, 0, none⟩)) := b3.cell 0
            have d1 : wr.cell? ⟨s, 1, none⟩ = some (.int .i64 (S.fr : Int)) := b3.cell 1
            have d2 : wr.cell? ⟨s, 2, none⟩ = some (.int .i64 (S.sectors : Int)) := b3.cell 2
            have hPlen : (P0 ++ zerosL B S.fr K j).length ≤ 1 + j := by rw [List.length_append]; have := length_zerosL B S.fr j K; have := HPm.out.2; omega
            have hPmem : ∀ p ∈ P0 ++ zerosL B S.fr K j, p.1 < S.fr + K + j ∧ p.2.length = 128 := fun p hp => by
              rcases List.mem_append.1 hp with hp | hp
              · have := HPm.out.1 p hp; exact ⟨by omega, this.2⟩
              · have := zerosL_mem hp; exact ⟨by omega, this.2.2⟩
            have hjm : j ≤ m := by omega
            have hfine : Fine B (P0 ++ zerosL B S.fr K j) := ⟨HBf.out.pos, HBf.out.le, HBf.out.size, fun p hp => by have := hPmem p hp; exact ⟨by omega, this.2⟩⟩
            have HRep := Lib.hid hrep
            have HU := Lib.hid hup
            have HFD := Lib.hid hFD
            have HB3 := Lib.hid b3
            have HFine := Lib.hid hfine
            have HPl := Lib.hid hPlen
            have HPmem := Lib.hid hPmem
            have HJ := Lib.hid hjk
            have HB := Lib.hid hb
            obtain ⟨i, hi⟩ : ∃ i, S.fr + K + j = i := ⟨_, rfl⟩
            have HI := Lib.hid hi
            have HsD' : Hid (¬ FD' s) := Lib.hid (fun q => (hFD s q).elim hsD (fun q => absurd q.1 (by have := (HL.out s HK.out.1).2.2; have := HZ0.out; omega)))
            clear hrep hup hFD b3 hfine hPlen hPmem hb
            rw [hi]
            have s1 : IntKind.i64.wrap ((S.fr : Int) + (S.sectors : Int)) = ((S.fr + S.sectors : Nat) : Int) := by rw [IntWalk.i64_in _ (by omega)]; rfl
            by_cases hlt : j < m
            · have hil : i < S.fr + S.sectors := by omega
              have hiB : i < B.length := by omega
              clear hjk hi
              obtain ⟨X, hX⟩ : ∃ X, B.getD i [] = X := ⟨_, rfl⟩
              have HX := Lib.hid hX
              have hlt' : (i : Int) < ((S.fr + S.sectors : Nat) : Int) := by omega
              have HsF : Hid (¬ FD' w.heap.size) := Lib.hid (fun q => (HFD.out _ q).elim (fun q => HFDw.out _ q rfl) (fun q => absurd q.1 (by have := HZ0.out; omega)))
              have HZr := Lib.hid (HZx.out.upd HU.out (fun k hk q => HFDw.out k q hk))
              have HLt := Lib.hid hlt
              have hsn : zerosL B S.fr K (j + 1) = zerosL B S.fr K j ++ (if X = noughts128 then [] else [(i, noughts128)]) := by
                rw [zerosL_snoc, ← Nat.add_assoc, HI.out, hX]
              have HSn := Lib.hid hsn
              clear hX hsn hlt
              go_wp2_with fail
              go_quiet (fail)
              by_cases hx : X = noughts128
              · have hd : decide (X = noughts128) = true := decide_eq_true hx
                have HDx := Lib.hid hd
                have HXx := Lib.hid hx
                clear hd hx
                go_wp2_with (first
                  | (go_at_call 71; refine (disk_Read_at _ (HRep.out.upd ((Upd.refl Nil wr).drewN _) (fun _ _ f => f)) HFine.out (by have := HPl.out; omega) hiB (fun p hp => by have := HPmem.out p hp; have := HI.out; omega) HX.out).mono ?_; rintro e w1 ⟨a1, c1, rfl, g1, g2⟩; have HO1 := Lib.hid g1; have HU1 := Lib.hid g2.ofDrewN; clear g1 g2)
                  | (go_at_call 16; refine (bytesEqual_at _ c1 128 HO1.out.row (HZr.out.keep HU1.out).row (by have := HO1.out.1; rw [length_bvs] at this; omega) length_noughts128).mono ?_; rintro e w2 ⟨rfl, rfl⟩; rw [HDx.out]))
                go_roundg (gk - 1)
                · have hj := HJ.out
                  have hl := HLt.out
                  have e1 : zerosL B S.fr K (j + 1) = zerosL B S.fr K j := by rw [HSn.out, if_pos HXx.out, List.append_nil]
                  refine ⟨j + 1, by omega, by have := HI.out; go_num, b, rfl, by rw [e1]; exact HB.out, FD', by rw [e1]; exact HRep.out.upd HU1.out (fun _ _ f => f), HU.out.trans HU1.out (fun _ f _ => f.elim), fun k hk => (HFD.out k hk).imp id (Fr.on HU1.out.size k)⟩
                · have := HJ.out; have := HLt.out; omega
              · have hd : decide (X = noughts128) = false := decide_eq_false hx
                have HDx := Lib.hid hd
                have HXx := Lib.hid hx
                clear hd hx
                go_wp2_with (first
                  | (go_at_call 71; refine (disk_Read_at _ (HRep.out.upd ((Upd.refl Nil wr).drewN _) (fun _ _ f => f)) HFine.out (by have := HPl.out; omega) hiB (fun p hp => by have := HPmem.out p hp; have := HI.out; omega) HX.out).mono ?_; rintro e w1 ⟨a1, c1, rfl, g1, g2⟩; have HO1 := Lib.hid g1; have HU1 := Lib.hid g2.ofDrewN; have m0 := g2.cell d0 (fun f => f); clear g1 g2)
                  | (go_at_call 16; refine (bytesEqual_at _ c1 128 HO1.out.row (HZr.out.keep HU1.out).row (by have := HO1.out.1; rw [length_bvs] at this; omega) length_noughts128).mono ?_; rintro e w2 ⟨rfl, rfl⟩; rw [HDx.out])
                  | (go_at_call 76; refine (disk_Write_at _ (HRep.out.upd HU1.out (fun _ _ f => f)) (i := i) hiB (by have := HPl.out; omega) 128 (HZr.out.keep HU1.out).row length_noughts128).mono ?_; rintro e w3 ⟨rfl, F3, g1, g2, g3⟩; have HG1 := Lib.hid g1; have HG2 := Lib.hid g2; have HG3 := Lib.hid g3; clear g1 g2 g3))
                go_roundg (gk - 1)
                · have hj := HJ.out
                  have hl := HLt.out
                  have e1 : P0 ++ zerosL B S.fr K (j + 1) = P0 ++ zerosL B S.fr K j ++ [(i, noughts128)] := by rw [HSn.out, if_neg HXx.out, List.append_assoc]
                  have z1 := HU1.out.size
                  have z2 := HG2.out.size
                  have z3 := HU.out.size
                  refine ⟨j + 1, by omega, by have := HI.out; go_num, true, rfl, ?_, F3, by rw [e1]; exact HG1.out, ?_, fun k hk => ?_⟩
                  · rw [e1]
                    exact (decide_eq_true (by simp)).symm
                  · exact (HU.out.trans HU1.out (fun _ f _ => f.elim)).trans HG2.out (fun k hk hlt => (HFD.out k hk).elim id (fun q => absurd q.1 (by omega)))
                  · rcases HG3.out k hk with q | q
                    · exact (HFD.out k q).imp id (Fr.on (Nat.le_trans z1 z2) k)
                    · exact .inr (Fr.back (Nat.le_trans z3 z1) k q)
                · have := HJ.out; have := HLt.out; omega
            · have hil : S.fr + S.sectors ≤ i := by omega
              have hjm2 : j = m := by omega
              have hlt' : ((S.fr + S.sectors : Nat) : Int) ≤ (i : Int) := by omega
              clear hjk hi
              have hF' : ∀ W : World, wr.heap.size ≤ W.heap.size → ∀ k, FD' k → FD k ∨ Fr w W k := fun W hW k hk => (HFD.out k hk).imp id (fun q => Fr.on hW k (Fr.back (by have := HZ0.out; omega) k q))
              have HF' := Lib.hid hF'
              have HUp := Lib.hid (HU0.out.ofNil.trans HU.out (fun k hk _ => hk))
              clear hF'
              obtain ⟨k1, k2, k3, k4⟩ := HK.out
              have HLR : Hid (∀ W : World, Upd FD' wr W → Blk W s 69 (logCells d S a c) → LRep 69 true FL W s d S) := Lib.hid (fun W u bW => ⟨R, a, c, k1, fun k hk => ⟨(k2 k hk).1, (k2 k hk).2.1, by have := (k2 k hk).2.2; have := HUp.out.size; have := u.size; omega⟩, bW, (k4.upd HUp.out (fun k hk => (HL.out k (k2 k hk).1).2.1)).upd u (fun k hk q => (HFD.out k q).elim (HL.out k (k2 k hk).1).2.1 (fun q => absurd q.1 (by have := (k2 k hk).2.2; have := HZ0.out; omega)))⟩)
              clear k1 k2 k3 k4
              rcases b with _ | _
              · have hnil : P0 ++ zerosL B S.fr K j = [] := by
                  have := HB.out
                  have h2 := of_decide_eq_false this.symm
                  exact Classical.byContradiction h2
                have HNil := Lib.hid hnil
                clear hnil
                go_wp2_with fail
                go_quiet (fail)
                go_wp2_with fail
                go_ret
                have e1 : P0 ++ zerosL B S.fr K m = [] := by rw [← hjm2]; exact HNil.out
                rw [hm, e1]
                have hrp := HRep.out
                rw [HNil.out] at hrp
                exact LDGot.disk H0.out HL.out HD.out (HLR.out _ ((Upd.refl _ _).drewN _) (HB3.out.drewN _)) (hrp.upd ((Upd.refl Nil wr).drewN _) (fun _ _ f => f)) ((HUp.out.mono (fun k hk => (HD.out k hk).1)).drewN _) (HF'.out _ (Nat.le_refl _))
              · go_wp2_with fail
                go_quiet (fail)
                go_wp2_with (go_at_call 78; refine (disk_Flush _ (HRep.out.upd ((Upd.refl Nil wr).drewN _) (fun _ _ f => f)) HFine.out (by have := HPl.out; omega)).mono ?_; rintro e w2 ⟨rfl, F2, g1, g2, g3⟩; have HG1 := Lib.hid g1; have HG2 := Lib.hid g2.ofDrewN; have HG3 := Lib.hid g3; clear g1 g2 g3)
                go_ret
                have hg1 := HG1.out
                rw [hjm2] at hg1
                rw [hm]
                have z1 := HG2.out.size
                have z2 := HUp.out.size
                refine LDGot.disk H0.out HL.out HD.out (HLR.out _ HG2.out (HB3.out.upd HG2.out HsD'.out)) hg1 ?_ (fun k hk => ?_)
                · exact (HUp.out.trans HG2.out (fun k hk hlt => (HF'.out wr (Nat.le_refl _) k hk).elim id (fun q => absurd q.1 (by omega)))).mono (fun k hk => (HD.out k hk).1)
                · rcases HG3.out k hk with q | q
                  · exact HF'.out w2 z1 k q
                  · exact .inr (Fr.back z2 k q)
end Go.Proofs.YtbaombnnagidcaaDoor
