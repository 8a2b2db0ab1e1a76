/- The log over its disk: what both are; the program's Force and Reset. -/
import Derived.Test.YtbaombnnagidcaaDoorLogCalls
import Derived.Deep.RegionHeld3
import Derived.BigRegion
namespace Go.Proofs.YtbaombnnagidcaaDoor
open Go.RowKit

/-- a log and its disk, in blocks apart -/
def LD (tl td : TypeId) (g : Bool) (F : Nat → Prop) (w : World) (s d : Nat) (S : LogS) (B : List (List UInt8)) (P : List Snt) : Prop :=
  ¬ F 0 ∧ ∃ FL FD : Nat → Prop, (∀ k, FL k → F k ∧ ¬ FD k ∧ k < w.heap.size) ∧ (∀ k, FD k → F k ∧ k < w.heap.size) ∧ LRep tl g FL w s d S ∧ DRep td FD w d B P
/-- what a call leaves that turns both -/
def LDGot (tl td : TypeId) (g : Bool) (F : Nat → Prop) (w : World) (s d : Nat) (v : Value) (S : LogS) (B : List (List UInt8)) (P : List Snt) (e : Ending) (w' : World) : Prop :=
  e = .returned v ∧ ∃ F', LD tl td g F' w' s d S B P ∧ Upd F w w' ∧ ∀ k, F' k → F k ∨ Fr w w' k
section
variable {tl td : TypeId} {g : Bool} {F : Nat → Prop} {w w' : World} {s d : Nat} {S S' : LogS} {B B' : List (List UInt8)} {P P' : List Snt}
theorem LD.upd {G : Nat → Prop} (h : LD tl td g F w s d S B P) (u : Upd G w w') (hd : ∀ k, F k → ¬ G k) : LD tl td g F w' s d S B P := by
  obtain ⟨h0, FL, FD, hL, hD, hl, hd'⟩ := h
  exact ⟨h0, FL, FD, fun k hk => ⟨(hL k hk).1, (hL k hk).2.1, Nat.lt_of_lt_of_le (hL k hk).2.2 u.size⟩, fun k hk => ⟨(hD k hk).1, Nat.lt_of_lt_of_le (hD k hk).2 u.size⟩, hl.upd u (fun k hk => hd k (hL k hk).1), hd'.upd u (fun k hk => hd k (hD k hk).1)⟩
theorem LD.keep (h : LD tl td g F w s d S B P) (u : Upd Nil w w') : LD tl td g F w' s d S B P := h.upd u (fun _ _ f => f)
theorem LDGot.same {v : Value} (h : LD tl td g F w s d S B P) (u : Upd Nil w w') : LDGot tl td g F w s d v S B P (.returned v) w' :=
  ⟨rfl, F, h.keep u, u.ofNil, fun _ hk => .inl hk⟩
/-- the disk has turned, and cells of the log -/
theorem LDGot.disk {FL FD FD' : Nat → Prop} {v : Value} (h0 : ¬ F 0) (hL : ∀ k, FL k → F k ∧ ¬ FD k ∧ k < w.heap.size) (hD : ∀ k, FD k → F k ∧ k < w.heap.size) (hl : LRep tl g FL w' s d S') (hd : DRep td FD' w' d B' P') (hup : Upd F w w') (hF : ∀ k, FD' k → FD k ∨ Fr w w' k) :
    LDGot tl td g F w s d v S' B' P' (.returned v) w' := by
  have hs : FL s := by obtain ⟨_, _, _, hs, _⟩ := hl; exact hs
  have hz := hup.size
  have hpos : 0 < w.heap.size := Nat.lt_of_le_of_lt (Nat.zero_le _) (hL s hs).2.2
  refine ⟨rfl, fun k => F k ∨ Fr w w' k, ⟨?_, FL, fun k => FD' k ∧ k < w'.heap.size, fun k hk => ?_, fun k hk => ?_, hl, hd.inHeap⟩, hup, fun _ hk => hk⟩
  · rintro (q | q)
    · exact h0 q
    · have := q.1; omega
  · obtain ⟨q1, q2, q3⟩ := hL k hk
    refine ⟨.inl q1, ?_, by omega⟩
    rintro ⟨q4, _⟩
    rcases hF k q4 with q | q
    · exact q2 q
    · have := q.1; omega
  · refine ⟨?_, hk.2⟩
    rcases hF k hk.1 with q | q
    · exact .inl (hD k q).1
    · exact .inr q
end
abbrev LogLD := LD 69 76 true
abbrev LogLDGot := LDGot 69 76 true

/-- the sectors of a stream from number j on, m of them -/
def forceL (fr first : Nat) (s : List UInt8) (j : Nat) : Nat → List Snt
  | 0 => []
  | m + 1 => forceL fr first s j m ++ [(fr + (j + m), sectorL (j + m) first (chunkL s (j + m)))]
theorem length_forceL (fr first : Nat) (s : List UInt8) (j : Nat) : ∀ m, (forceL fr first s j m).length = m
  | 0 => rfl
  | m + 1 => by rw [forceL, List.length_append, length_forceL fr first s j m]; rfl
theorem Fine.snoc {B : List (List UInt8)} {P : List Snt} (h : Fine B P) {i : Nat} {xs : List UInt8} (hi : i < B.length) (hx : xs.length = 128) : Fine B (P ++ [(i, xs)]) :=
  ⟨h.pos, h.le, h.size, fun p hp => by
    rcases List.mem_append.1 hp with hp | hp
    · exact h.sent p hp
    · rw [List.mem_singleton.1 hp]; exact ⟨hi, hx⟩⟩
theorem fine_forceL {B : List (List UInt8)} (h : Fine B []) {fr first j : Nat} {s : List UInt8} : ∀ {m : Nat}, fr + (j + m) ≤ B.length → Fine B (forceL fr first s j m)
  | 0, _ => h
  | m + 1, hm => (fine_forceL h (by omega)).snoc (by omega) (length_sectorL (length_chunkL _ _))
def forceN (S : LogS) : List Snt := if S.forced = S.last then [] else forceL S.fr S.first S.stream (S.durable / 112) ((S.stream.length + 111) / 112 - S.durable / 112)
def forceS (S : LogS) : LogS := if S.forced = S.last then S else { S with durable := S.stream.length, forced := S.last }
theorem bvs_chunk (s : List UInt8) (i : Nat) (h : i * 112 ≤ s.length) : chunkL s i = (s.drop (i * 112)).take (min s.length ((i + 1) * 112) - i * 112) := by
  unfold chunkL
  rcases Nat.le_total s.length ((i + 1) * 112) with h1 | h1
  · rw [Nat.min_eq_left h1, List.take_of_length_le (by rw [List.length_drop]; omega), List.take_of_length_le (by rw [List.length_drop]; omega)]
  · rw [Nat.min_eq_right h1]
    congr 1
    omega

theorem disk_Write_at {F G : Nat → Prop} (w : World) {s : Nat} {B : List (List UInt8)} {P : List Snt} (h : DiskRep F w s B P) {i : Nat} (hi : i < B.length) (hP : P.length ≤ 4000000000000) {a : Option Addr} (c : Nat) {xs : List UInt8} (hr : Row G w a (bvs xs)) (hx : xs.length = 128) :
    Calls Tryd.prog 76 #[.pointer (some ⟨s, 0, none⟩), .int .i64 i, .slice a 128 c] w (DGot 76 F w s (.int .i64 0) B (P ++ [(i, xs)])) := by
  have := disk_Write_yes w h hi hP c hr hx
  rwa [hx] at this

set_option maxRecDepth 100000 in
set_option maxHeartbeats 4000000 in
theorem log_Force {F : Nat → Prop} (w : World) {s d : Nat} {S : LogS} {B : List (List UInt8)} (h : LogLD F w s d S B []) (hf : LFine S) (hB : Fine B []) (hfr : S.fr + S.sectors ≤ B.length) (tab : Tab w) :
    Calls Tryd.prog 43 #[.pointer (some ⟨s, 0, none⟩)] w (LogLDGot F w s d (.int .i64 0) (forceS S) (applyP B (forceN S)) []) := by
  have HLD := Lib.hid h
  have HFi := Lib.hid hf
  have HBf := Lib.hid hB
  have HT := Lib.hid tab
  obtain ⟨h0, FL, FD, hL, hD, hl, hd⟩ := h
  have HN := Lib.hid (log_none_no w hl)
  obtain ⟨R, a, c, k1, k2, k3, k4⟩ := hl
  have hsD : ¬ FD s := (hL s k1).2.1
  have c0 : w.cell? ⟨s, 0, none⟩ = some (.pointer (some ⟨d, 0, none⟩)) := k3.cell 0
  have c4 : w.cell? ⟨s, 4, none⟩ = some (.int .i64 (S.last : Int)) := k3.cell 4
  have c5 : w.cell? ⟨s, 5, none⟩ = some (.int .i64 (S.forced : Int)) := k3.cell 5
  have c7 : w.cell? ⟨s, 7, none⟩ = some (.int .i64 (S.durable : Int)) := k3.cell 7
  have HL := Lib.hid hL
  have HD := Lib.hid hD
  have HDk := Lib.hid hd
  have HK := Lib.hid (And.intro k1 (And.intro k2 (And.intro k3 k4)))
  have H0 := Lib.hid h0
  have hlen : S.stream.length ≤ 458752 := by have := hf.stream; have := hf.le; omega
  have hdur := hf.durable
  have hsec := hf.stream
  have hle := hf.le
  have hfirst := hf.first2
  clear hf hB tab hL hD hd k1 k2 k3 k4 h0
  by_cases hq : S.forced = S.last
  · have e1 : forceS S = S := if_pos hq
    have e2 : forceN S = [] := if_pos hq
    rw [e1, e2]
    have hb : ((S.forced : Int) == (S.last : Int)) = true := by rw [hq]; exact beq_self_eq_true _
    clear e1 e2
    go_enter Tryd.func43, Tryd.ntmps43
    go_wp2_with (go_at_call 75; refine HN.out.mono ?_; rintro e w' ⟨rfl, rfl⟩)
    go_quiet (fail)
    go_wp2
    go_ret
    exact LDGot.same HLD.out ((Upd.refl Nil w).drewN _)
  · have e1 : forceS S = { S with durable := S.stream.length, forced := S.last } := if_neg hq
    have e2 : forceN S = forceL S.fr S.first S.stream (S.durable / 112) ((S.stream.length + 111) / 112 - S.durable / 112) := if_neg hq
    rw [e1, e2]
    have hb : ((S.forced : Int) == (S.last : Int)) = false := by rw [beq_eq_false_iff_ne]; omega
    clear e1 e2
    obtain ⟨j0, hj0⟩ : ∃ n, S.durable / 112 = n := ⟨_, rfl⟩
    obtain ⟨m, hm⟩ : ∃ n, (S.stream.length + 111) / 112 - S.durable / 112 = n := ⟨_, rfl⟩
    rw [hj0] at hm ⊢
    rw [hm]
    have v1 : Int.tdiv (S.durable : Int) 112 = (j0 : Int) := by rw [← hj0]; rfl
    go_enter Tryd.func43, Tryd.ntmps43
    go_wp2_with (go_at_call 75; refine HN.out.mono ?_; rintro e w' ⟨rfl, rfl⟩)
    go_quiet (fail)
    go_wp2
    go_loopg [3] m (fun k i wr => ∃ j : Nat, j + k = m ∧ i = .int .i64 ((j0 + j : Nat) : Int) ∧ ∃ FD', DiskRep FD' wr d B (forceL S.fr S.first S.stream j0 j) ∧ Upd FD w wr ∧ ∀ k, FD' k → FD k ∨ Fr w wr k)
    case atStart => exact ⟨0, by omega, rfl, FD, HDk.out.upd ((Upd.refl Nil w).drewN _) (fun _ _ f => f), (Upd.refl FD w).drewN _, fun _ hk => .inl hk⟩
    case round =>
      obtain ⟨j, hjk, rfl, FD', hrep, hup, hFD⟩ := hrel
      obtain ⟨k1, k2, k3, k4⟩ := HK.out
      have b3 := k3.upd hup hsD
      have d0 : wr.cell? ⟨s, 0, none⟩ = some (.pointer (some ⟨d, 0, none⟩)) := b3.cell 0
      have d1 : wr.cell? ⟨s, 1, none⟩ = some (.int .i64 (S.fr : Int)) := b3.cell 1
      have d3 : wr.cell? ⟨s, 3, none⟩ = some (.int .i64 (S.first : Int)) := b3.cell 3
      have d4 : wr.cell? ⟨s, 4, none⟩ = some (.int .i64 (S.last : Int)) := b3.cell 4
      have d6 : wr.cell? ⟨s, 6, none⟩ = some (.slice a S.stream.length c) := b3.cell 6
      have hRD : ∀ k, R k → ¬ FD k := fun k hk => (HL.out k (k2 k hk).1).2.1
      have hrow : Row R wr a (bvs S.stream) := k4.1.upd hup hRD
      have hlc : S.stream.length ≤ c := k4.2.2.1
      have hcm : c ≤ maxLen := k4.2.2.2.1
      have hac : a = none → c = 0 := k4.2.1
      have hjm : j ≤ m := by omega
      have htab : Tab wr := HT.out.upd hup (fun q => H0.out (HD.out 0 q).1)
      obtain ⟨J, hJ⟩ : ∃ J, j0 + j = J := ⟨_, rfl⟩
      have HRep := Lib.hid hrep
      have HU := Lib.hid hup
      have HFD := Lib.hid hFD
      have HB3 := Lib.hid b3
      have HRow := Lib.hid hrow
      have HTab := Lib.hid htab
      have HJ := Lib.hid hjk
      have HJ2 := Lib.hid hJ
      have HsD' : Hid (¬ FD' s) := Lib.hid (fun q => (hFD s q).elim hsD (fun q => absurd q.1 (by have := (HL.out s k1).2.2; omega)))
      clear c0 c4 c5 c7 hrep hup hFD k1 k2 k3 k4 b3 hrow htab hRD hb
      rw [hJ]
      by_cases hlt : j < m
      · have hJl : J * 112 < S.stream.length := by omega
        clear hJ hjk
        obtain ⟨ab, ao, ea, _, _⟩ := HRow.out (fun e => by have e2 := congrArg List.length e; rw [length_bvs, List.length_nil] at e2; omega)
        subst ea
        have s1 : IntKind.i64.wrap ((J : Int) * 112) = ((J * 112 : Nat) : Int) := by rw [IntWalk.i64_in _ (by omega)]; rfl
        have s2 : IntKind.i64.wrap ((J : Int) + 1) = ((J + 1 : Nat) : Int) := by rw [IntWalk.i64_in _ (by omega)]; rfl
        have s3 : IntKind.i64.wrap (((J + 1 : Nat) : Int) * 112) = (((J + 1) * 112 : Nat) : Int) := by rw [IntWalk.i64_in _ (by omega)]; rfl
        go_wp2_with fail
        go_quiet (fail)
        all_goals go_wp2_with fail
        all_goals first
          | (obtain ⟨n, hn⟩ : ∃ n, (((J : Int) + 1) * 112).toNat - J * 112 = n := ⟨_, rfl⟩
             rw [hn]
             have hn2 : Hid (n = min (S.stream.length - J * 112) 112) := Lib.hid (by omega)
             have hn4 : n ≤ 112 := by omega
             have hn5 : n ≤ S.stream.length - J * 112 := by omega
             clear hn)
          | (obtain ⟨n, hn⟩ : ∃ n, S.stream.length - J * 112 = n := ⟨_, rfl⟩
             rw [hn]
             have hn2 : Hid (n = min (S.stream.length - J * 112) 112) := Lib.hid (by omega)
             have hn4 : n ≤ 112 := by omega
             have hn5 : n ≤ S.stream.length - J * 112 := by omega
             clear hn)
        all_goals
          have hrow2 : Row R wr (some ⟨ab, ao + J * 112, none⟩) (bvs (chunkL S.stream J)) := by
            have e1 : bvs (chunkL S.stream J) = ((bvs S.stream).drop (J * 112)).take 112 := by simp [chunkL, bvs, List.map_drop, List.map_take]
            rw [e1]
            exact HRow.out.cut (J * 112) 112 (by intro e; have e2 := congrArg List.length e; rw [List.length_take, List.length_drop, length_bvs, List.length_nil] at e2; omega) rfl
          have hn3 : (chunkL S.stream J).length = n := by have := hn2.out; rw [chunkL, List.length_take, List.length_drop]; omega
          have HRow2 := Lib.hid hrow2
          have HN3 := Lib.hid hn3
          have s4 : IntKind.i64.wrap ((S.fr : Int) + (J : Int)) = ((S.fr + J : Nat) : Int) := by rw [IntWalk.i64_in _ (by omega)]; rfl
          clear hrow2 hn3
          go_region_held3 (fun W => W.cell? ⟨s, 0, none⟩ = some (.pointer (some ⟨d, 0, none⟩)) ∧ W.cell? ⟨s, 1, none⟩ = some (.int .i64 (S.fr : Int)) ∧ W.cell? ⟨s, 3, none⟩ = some (.int .i64 (S.first : Int))) (first | exact ⟨x0, x1, x3⟩ | exact ⟨m0, m1, m3⟩ | exact ⟨d0, d1, d3⟩)
            (first
              | (go_at_call 77; refine (log_sector _ J S.first (by omega) (by omega) (c - J * 112) (HRow2.out.drewN _) (fun e => by cases e) (by rw [HN3.out]; omega) (by omega) HN3.out (by omega) (HTab.out.upd ((Upd.refl Nil wr).drewN _) (fun f => f))).mono ?_; rintro e w1 ⟨a1, c1, rfl, g1, g2⟩; have m0 := g2.cell d0 (fun f => f); have m1 := g2.cell d1 (fun f => f); have m3 := g2.cell d3 (fun f => f); have HB1 := Lib.hid (HB3.out.upd g2.ofDrewN (fun f => f)); have HO1 := Lib.hid g1; have HU1 := Lib.hid g2; clear g1 g2)
              | (go_at_call 76; refine (disk_Write_at _ (HRep.out.upd HU1.out.ofDrewN (fun _ _ f => f)) (i := S.fr + J) (by have := HJ2.out; have := HJ.out; omega) (by rw [length_forceL]; omega) c1 HO1.out.row (length_sectorL (by rw [HN3.out]; omega))).mono ?_; rintro e w2 ⟨rfl, F2, g1, g2, g3⟩; have b2 := HB1.out.upd g2 HsD'.out; have x0 : w2.cell? ⟨s, 0, none⟩ = some (.pointer (some ⟨d, 0, none⟩)) := b2.cell 0; have x1 : w2.cell? ⟨s, 1, none⟩ = some (.int .i64 (S.fr : Int)) := b2.cell 1; have x3 : w2.cell? ⟨s, 3, none⟩ = some (.int .i64 (S.first : Int)) := b2.cell 3; have HG1 := Lib.hid g1; have HG2 := Lib.hid g2; have HG3 := Lib.hid g3; clear g1 g2 g3 b2))
        all_goals go_wp2
        all_goals go_roundg (gk - 1)
        all_goals first
          | (have := HJ.out; omega)
          | (have hu1 := HU1.out.ofDrewN.ofNil (G := FD')
             have e1 : chunkL S.stream J = chunkL S.stream (j0 + j) := by rw [HJ2.out]
             refine ⟨j + 1, by have := HJ.out; omega, by have := HJ2.out; go_num, F2, ?_, ?_, ?_⟩
             · rw [forceL, HJ2.out]
               exact HG1.out
             · refine HU.out.trans (hu1.trans HG2.out (fun k hk _ => hk)) (fun k hk hlt => (HFD.out k hk).elim id (fun q => absurd q.1 (by omega)))
             · intro k hk
               rcases HG3.out k hk with q | q
               · exact (HFD.out k q).imp id (Fr.on (Nat.le_trans hu1.size HG2.out.size) k)
               · exact .inr (Fr.back (Nat.le_trans HU.out.size hu1.size) k q))
      · have hJl : S.stream.length ≤ J * 112 := by omega
        have hjm2 : j = m := by omega
        have s1 : IntKind.i64.wrap ((J : Int) * 112) = ((J * 112 : Nat) : Int) := by rw [IntWalk.i64_in _ (by omega)]; rfl
        clear hJ hjk
        go_wp2_with (go_at_call 78; refine (disk_Flush wr HRep.out (fine_forceL HBf.out (by have := HFi.out.stream; omega)) (by rw [length_forceL]; omega)).mono ?_; rintro e w2 ⟨rfl, F2, g1, g2, g3⟩; have b2 := HB3.out.upd g2 (fun q => hsD ((HFD.out s q).elim id (fun q => absurd q.1 (by have := (HL.out s HK.out.1).2.2; omega)))); have e4 : w2.cell? ⟨s, 4, none⟩ = some (.int .i64 (S.last : Int)) := b2.cell 4; have e6 : w2.cell? ⟨s, 6, none⟩ = some (.slice a S.stream.length c) := b2.cell 6; have f5 := b2.frozen 5; have f7 := b2.frozen 7; have e5 : w2.cell? ⟨s, 5, none⟩ = some (.int .i64 (S.forced : Int)) := b2.cell 5; have e7 : w2.cell? ⟨s, 7, none⟩ = some (.int .i64 (S.durable : Int)) := b2.cell 7; have HB2 := Lib.hid b2; have HG1 := Lib.hid g1; have HG2 := Lib.hid g2; have HG3 := Lib.hid g3; clear g1 g2 g3 b2 d0 d1 d3 d4 d6)
        go_region
        all_goals go_wp2
        go_ret
        obtain ⟨k1, k2, k3, k4⟩ := HK.out
        have hsz := (HL.out s k1).2.2
        have UU : Upd FD w w2 := HU.out.trans HG2.out (fun k hk hlt => (HFD.out k hk).elim id (fun q => absurd q.1 (by omega)))
        have hF2 : ∀ k, F2 k → FD k ∨ Fr w w2 k := fun k hk => by
          rcases HG3.out k hk with q | q
          · exact (HFD.out k q).imp id (Fr.on HG2.out.size k)
          · exact .inr (Fr.back HU.out.size k q)
        have one : Upd (One s) w2 ((w2.setCell ⟨s, 7, none⟩ (.int .i64 (S.stream.length : Int))).setCell ⟨s, 5, none⟩ (.int .i64 (S.last : Int))).drew := (((Upd.refl (One s) w2).setCell (p := ⟨s, 7, none⟩) (.inl rfl) _).setCell (p := ⟨s, 5, none⟩) (.inl rfl) _).drew
        have hz := UU.size
        have hz1 := one.size
        have hg1 := HG1.out
        rw [hjm2] at hg1
        refine LDGot.disk H0.out HL.out HD.out ⟨R, a, c, k1, fun k hk => ⟨(k2 k hk).1, (k2 k hk).2.1, by have := (k2 k hk).2.2; omega⟩, ((HB2.out.set 7 (.int .i64 (S.stream.length : Int))).set 5 (.int .i64 (S.last : Int))).drew, (k4.upd UU (fun k hk => (HL.out k (k2 k hk).1).2.1)).upd one (fun k hk e => (k2 k hk).2.1 e)⟩ (hg1.upd one (fun k hk e => ?_)) ?_ (fun k hk => (hF2 k hk).imp id (Fr.on hz1 k))
        · subst e
          rcases hF2 k hk with q | q
          · exact hsD q
          · have := q.1; omega
        · exact ((UU.mono (fun k hk => (HD.out k hk).1)).trans one (fun k hk _ => by rw [show k = s from hk]; exact (HL.out s k1).1))

def resetC (S : LogS) : Int := if 4611686018427387904 ≤ S.last then 4 else 0
def resetS (S : LogS) : LogS := if 4611686018427387904 ≤ S.last then S else { S with first := S.last + 1, forced := S.last, stream := [], durable := 0 }
def resetN (S : LogS) : List Snt := if 4611686018427387904 ≤ S.last then [] else [(S.fr, sectorL 0 (S.last + 1) [])]

set_option maxRecDepth 100000 in
set_option maxHeartbeats 4000000 in
theorem log_Reset {F : Nat → Prop} (w : World) {s d : Nat} {S : LogS} {B : List (List UInt8)} (h : LogLD F w s d S B []) (hf : LFine S) (hB : Fine B []) (hfr : S.fr + S.sectors ≤ B.length) (tab : Tab w) :
    Calls Tryd.prog 44 #[.pointer (some ⟨s, 0, none⟩)] w (LogLDGot F w s d (.int .i64 (resetC S)) (resetS S) (applyP B (resetN S)) []) := by
  have HLD := Lib.hid h
  have HBf := Lib.hid hB
  have HT := Lib.hid tab
  obtain ⟨h0, FL, FD, hL, hD, hl, hd⟩ := h
  have HN := Lib.hid (log_none_no w hl)
  obtain ⟨R, a, c, k1, k2, k3, k4⟩ := hl
  have hsD : ¬ FD s := (hL s k1).2.1
  have c3 : w.cell? ⟨s, 3, none⟩ = some (.int .i64 (S.first : Int)) := k3.cell 3
  have c4 : w.cell? ⟨s, 4, none⟩ = some (.int .i64 (S.last : Int)) := k3.cell 4
  have c5 : w.cell? ⟨s, 5, none⟩ = some (.int .i64 (S.forced : Int)) := k3.cell 5
  have c6 : w.cell? ⟨s, 6, none⟩ = some (.slice a S.stream.length c) := k3.cell 6
  have c7 : w.cell? ⟨s, 7, none⟩ = some (.int .i64 (S.durable : Int)) := k3.cell 7
  have f3 := k3.frozen 3
  have f5 := k3.frozen 5
  have f6 := k3.frozen 6
  have f7 := k3.frozen 7
  have HL := Lib.hid hL
  have HD := Lib.hid hD
  have HDk := Lib.hid hd
  have HK := Lib.hid (And.intro k1 (And.intro k2 (And.intro k3 k4)))
  have H0 := Lib.hid h0
  have HPos := Lib.hid hf.pos
  clear hf hB tab hL hD hd k1 k2 k3 k4 h0
  by_cases hq : 4611686018427387904 ≤ S.last
  · have e1 : resetS S = S := if_pos hq
    have e2 : resetN S = [] := if_pos hq
    have e3 : resetC S = 4 := if_pos hq
    rw [e1, e2, e3]
    clear e1 e2 e3 c3 c5 c6 c7 f3 f5 f6 f7
    have hq3 : decide ((4611686018427387904 : Int) ≤ (S.last : Int)) = true := by rw [decide_eq_true_eq]; omega
    clear hq
    go_enter Tryd.func44, Tryd.ntmps44
    go_wp2_with (go_at_call 75; refine HN.out.mono ?_; rintro e w' ⟨rfl, rfl⟩)
    go_ret
    exact LDGot.same HLD.out (Upd.refl Nil w)
  · have hq2 : S.last < 4611686018427387904 := by omega
    clear hq
    have hq : ¬ 4611686018427387904 ≤ S.last := by omega
    have e1 : resetS S = { S with first := S.last + 1, forced := S.last, stream := [], durable := 0 } := if_neg hq
    have e2 : resetN S = [(S.fr, sectorL 0 (S.last + 1) [])] := if_neg hq
    have e3 : resetC S = 0 := if_neg hq
    rw [e1, e2, e3]
    clear e1 e2 e3 hq
    have hq3 : decide ((4611686018427387904 : Int) ≤ (S.last : Int)) = false := by rw [decide_eq_false_iff_not]; omega
    have s1 : IntKind.i64.wrap ((S.last : Int) + 1) = ((S.last + 1 : Nat) : Int) := by rw [IntWalk.i64_in _ (by omega)]; rfl
    have HQ2 := Lib.hid hq2
    clear hq2
    go_enter Tryd.func44, Tryd.ntmps44
    go_wp2_with (go_at_call 75; refine HN.out.mono ?_; rintro e w' ⟨rfl, rfl⟩)
    go_region
    all_goals go_wp2_with fail
    obtain ⟨W, hW⟩ : ∃ W, ((((w.setCell ⟨s, 3, none⟩ (.int .i64 ((S.last : Int) + 1))).setCell ⟨s, 5, none⟩ (.int .i64 (S.last : Int))).setCell ⟨s, 6, none⟩ (.slice none 0 0)).setCell ⟨s, 7, none⟩ (.int .i64 0)).drew = W := ⟨_, rfl⟩
    rw [hW]
    have one : Upd (One s) w W := by
      rw [← hW]
      exact (((((Upd.refl (One s) w).setCell (p := ⟨s, 3, none⟩) (.inl rfl) _).setCell (p := ⟨s, 5, none⟩) (.inl rfl) _).setCell (p := ⟨s, 6, none⟩) (.inl rfl) _).setCell (p := ⟨s, 7, none⟩) (.inl rfl) _).drew
    have bW : Blk W s 69 (logCells d { S with first := S.last + 1, forced := S.last, stream := [], durable := 0 } none 0) := by
      rw [← hW]
      exact ((((HK.out.2.2.1.set 3 (.int .i64 ((S.last : Int) + 1))).set 5 (.int .i64 (S.last : Int))).set 6 (.slice none 0 0)).set 7 (.int .i64 0)).drew
    have d0 : W.cell? ⟨s, 0, none⟩ = some (.pointer (some ⟨d, 0, none⟩)) := bW.cell 0
    have d1 : W.cell? ⟨s, 1, none⟩ = some (.int .i64 (S.fr : Int)) := bW.cell 1
    have d3 : W.cell? ⟨s, 3, none⟩ = some (.int .i64 ((S.last + 1 : Nat) : Int)) := bW.cell 3
    have HB3 := Lib.hid bW
    have HU := Lib.hid one
    have HW := Lib.hid hW
    have HTab := Lib.hid (HT.out.upd one (fun (q : 0 = s) => H0.out (by rw [q]; exact (HL.out s HK.out.1).1)))
    have HDW := Lib.hid (HDk.out.upd one (fun k hk (q : k = s) => hsD (by rw [← q]; exact hk)))
    clear hW one bW c3 c4 c5 c6 c7 f3 f5 f6 f7
    go_region_held3 (fun W => W.cell? ⟨s, 0, none⟩ = some (.pointer (some ⟨d, 0, none⟩)) ∧ W.cell? ⟨s, 1, none⟩ = some (.int .i64 (S.fr : Int)) ∧ W.cell? ⟨s, 3, none⟩ = some (.int .i64 ((S.last + 1 : Nat) : Int))) (first | exact ⟨x0, x1, x3⟩ | exact ⟨m0, m1, m3⟩ | exact ⟨d0, d1, d3⟩)
      (first
        | (go_at_call 77; refine (log_sector (F := Nil) (load := []) (n := 0) _ 0 (S.last + 1) (by omega) (by have := HQ2.out; omega) 0 (Row.nil _ _ none) (fun _ => rfl) (Nat.le_refl _) (Nat.zero_le _) rfl (Nat.zero_le _) (HTab.out.upd (Upd.refl Nil W).drew (fun f => f))).mono ?_; rintro e w1 ⟨a1, c1, rfl, g1, g2⟩; have m0 := g2.cell d0 (fun f => f); have m1 := g2.cell d1 (fun f => f); have m3 := g2.cell d3 (fun f => f); have HB1 := Lib.hid (HB3.out.upd g2.ofDrew (fun f => f)); have HO1 := Lib.hid g1; have HU1 := Lib.hid g2; clear g1 g2)
        | (go_at_call 76; refine (disk_Write_at _ (HDW.out.upd HU1.out.ofDrew (fun _ _ f => f)) (i := S.fr) (by have := HPos.out; omega) (by simp) c1 HO1.out.row (length_sectorL (Nat.zero_le _))).mono ?_; rintro e w2 ⟨rfl, F2, g1, g2, g3⟩; have b2 := HB1.out.upd g2 hsD; have x0 : w2.cell? ⟨s, 0, none⟩ = some (.pointer (some ⟨d, 0, none⟩)) := b2.cell 0; have x1 : w2.cell? ⟨s, 1, none⟩ = some (.int .i64 (S.fr : Int)) := b2.cell 1; have x3 : w2.cell? ⟨s, 3, none⟩ = some (.int .i64 ((S.last + 1 : Nat) : Int)) := b2.cell 3; have HB2 := Lib.hid b2; have HG1 := Lib.hid g1; have HG2 := Lib.hid g2; have HG3 := Lib.hid g3; clear g1 g2 g3 b2))
    all_goals go_wp2_with (go_at_call 78; refine (disk_Flush w2 HG1.out (HBf.out.snoc (by have := HPos.out; omega) (length_sectorL (Nat.zero_le _))) (by simp)).mono ?_; rintro e w3 ⟨rfl, F3, g1, g2, g3⟩; have HH1 := Lib.hid g1; have HH2 := Lib.hid g2; have HH3 := Lib.hid g3; clear g1 g2 g3)
    go_ret
    obtain ⟨k1, k2, k3, k4⟩ := HK.out
    have hsz := (HL.out s k1).2.2
    have U1 : Upd Nil W w1 := HU1.out.ofDrew
    have z1 := HU.out.size
    have z2 := U1.size
    have z3 := HG2.out.size
    have z4 := HH2.out.size
    have hF2 : ∀ k, F2 k → FD k ∨ Fr w w2 k := fun k hk => (HG3.out k hk).imp id (Fr.back (Nat.le_trans z1 z2) k)
    have hF3 : ∀ k, F3 k → FD k ∨ Fr w w3 k := fun k hk => by
      rcases HH3.out k hk with q | q
      · exact (hF2 k q).imp id (Fr.on z4 k)
      · exact .inr (Fr.back (Nat.le_trans z1 (Nat.le_trans z2 z3)) k q)
    have hs2 : ¬ F2 s := fun q => (hF2 s q).elim hsD (fun q => absurd q.1 (by omega))
    have up : Upd F w w3 := ((HU.out.trans U1 (G := One s) (fun _ f _ => f.elim)).mono (G' := F) (fun k hk => by rw [show k = s from hk]; exact (HL.out s k1).1)).trans (HG2.out.trans HH2.out (fun k hk hlt => (HG3.out k hk).elim id (fun q => absurd q.1 (by omega)))) (fun k hk _ => (HD.out k hk).1)
    exact LDGot.disk H0.out HL.out HD.out ⟨Nil, none, 0, k1, fun _ f => f.elim, HB2.out.upd HH2.out hs2, Held.none_ _ _⟩ HH1.out up hF3
end Go.Proofs.YtbaombnnagidcaaDoor
