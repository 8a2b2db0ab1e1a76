/- The log over its disk: what both are; the program's Force and Reset. -/
import Derived.Test.YtbaombnnagidcaaDoorZL13
import Derived.Deep.RegionHeld3
import Derived.BigRegion
import Derived.RangeFuncNested
import Derived.RangeFuncBound
import Derived.RangeFuncCalls
import Derived.RangeFuncLeaves
import Derived.RangeFuncBox
import Derived.Shelf.Abstract
import Derived.Shelf.RegionOpen
import Derived.WalkKit
import Derived.OwnWalkIn
import Derived.TacticsInMore
import Derived.LoopNIn
import Derived.LoopIn
import Derived.ControlIn
import Derived.Test.YtbaombnnagidcaaDoorZL07
import Derived.Test.YtbaombnnagidcaaDoorZL01

namespace Go.Proofs.YtbaombnnagidcaaDoor
open Go.RowKit

/-- a log and its disk, in blocks apart -/
def LD (tl td : TypeId) (g : Bool) (F : Nat → Prop) (w : World) (s d : Nat) (S : LogS) (B : List (List UInt8)) (P : List Snt) : Prop :=
  ¬ F 0 ∧ ∃ FL FD : Nat → Prop, (∀ k, FL k → F k ∧ ¬ FD k ∧ k < w.heap.size) ∧ (∀ k, FD k → F k ∧ k < w.heap.size) ∧ LRep tl g FL w s d S ∧ DRep td FD w d B P
/-- what a call leaves that turns both -/
def LDGot (tl td : TypeId) (g : Bool) (F : Nat → Prop) (w : World) (s d : Nat) (v : Value) (S : LogS) (B : List (List UInt8)) (P : List Snt) (e : Ending) (w' : World) : Prop :=
  e = .returned v ∧ ∃ F', LD tl td g F' w' s d S B P ∧ Upd F w w' ∧ ∀ k, F' k → F k ∨ Fr w w' k
section
variable {tl td : TypeId} {g : Bool} {F : Nat → Prop} {w w' : World} {s d : Nat} {S S' : LogS} {B B' : List (List UInt8)} {P P' : List Snt}
theorem LD.upd {G : Nat → Prop} (h : LD tl td g F w s d S B P) (u : Upd G w w') (hd : ∀ k, F k → ¬ G k) : LD tl td g F w' s d S B P := by
  obtain ⟨h0, FL, FD, hL, hD, hl, hd'⟩ := h
  exact ⟨h0, FL, FD, fun k hk => ⟨(hL k hk).1, (hL k hk).2.1, Nat.lt_of_lt_of_le (hL k hk).2.2 u.size⟩, fun k hk => ⟨(hD k hk).1, Nat.lt_of_lt_of_le (hD k hk).2 u.size⟩, hl.upd u (fun k hk => hd k (hL k hk).1), hd'.upd u (fun k hk => hd k (hD k hk).1)⟩
theorem LD.keep (h : LD tl td g F w s d S B P) (u : Upd Nil w w') : LD tl td g F w' s d S B P := h.upd u (fun _ _ f => f)
theorem LDGot.same {v : Value} (h : LD tl td g F w s d S B P) (u : Upd Nil w w') : LDGot tl td g F w s d v S B P (.returned v) w' :=
  ⟨rfl, F, h.keep u, u.ofNil, fun _ hk => .inl hk⟩
/-- the disk has turned, and cells of the log -/
theorem LDGot.disk {FL FD FD' : Nat → Prop} {v : Value} (h0 : ¬ F 0) (hL : ∀ k, FL k → F k ∧ ¬ FD k ∧ k < w.heap.size) (hD : ∀ k, FD k → F k ∧ k < w.heap.size) (hl : LRep tl g FL w' s d S') (hd : DRep td FD' w' d B' P') (hup : Upd F w w') (hF : ∀ k, FD' k → FD k ∨ Fr w w' k) :
    LDGot tl td g F w s d v S' B' P' (.returned v) w' := by
  have hs : FL s := by obtain ⟨_, _, _, hs, _⟩ := hl; exact hs
  have hz := hup.size
  have hpos : 0 < w.heap.size := Nat.lt_of_le_of_lt (Nat.zero_le _) (hL s hs).2.2
  refine ⟨rfl, fun k => F k ∨ Fr w w' k, ⟨?_, FL, fun k => FD' k ∧ k < w'.heap.size, fun k hk => ?_, fun k hk => ?_, hl, hd.inHeap⟩, hup, fun _ hk => hk⟩
  · rintro (q | q)
    · exact h0 q
    · have := q.1; omega
  · obtain ⟨q1, q2, q3⟩ := hL k hk
    refine ⟨.inl q1, ?_, by omega⟩
    rintro ⟨q4, _⟩
    rcases hF k q4 with q | q
    · exact q2 q
    · have := q.1; omega
  · refine ⟨?_, hk.2⟩
    rcases hF k hk.1 with q | q
    · exact .inl (hD k q).1
    · exact .inr q
end
abbrev LogLD := LD 69 76 true
abbrev LogLDGot := LDGot 69 76 true

/-- the sectors of a stream from number j on, m of them -/
def forceL (fr first : Nat) (s : List UInt8) (j : Nat) : Nat → List Snt
  | 0 => []
  | m + 1 => forceL fr first s j m ++ [(fr + (j + m), sectorL (j + m) first (chunkL s (j + m)))]
theorem length_forceL (fr first : Nat) (s : List UInt8) (j : Nat) : ∀ m, (forceL fr first s j m).length = m
  | 0 => rfl
  | m + 1 => by rw [forceL, List.length_append, length_forceL fr first s j m]; rfl
theorem Fine.snoc {B : List (List UInt8)} {P : List Snt} (h : Fine B P) {i : Nat} {xs : List UInt8} (hi : i < B.length) (hx : xs.length = 128) : Fine B (P ++ [(i, xs)]) :=
  ⟨h.pos, h.le, h.size, fun p hp => by
    rcases List.mem_append.1 hp with hp | hp
    · exact h.sent p hp
    · rw [List.mem_singleton.1 hp]; exact ⟨hi, hx⟩⟩
theorem fine_forceL {B : List (List UInt8)} (h : Fine B []) {fr first j : Nat} {s : List UInt8} : ∀ {m : Nat}, fr + (j + m) ≤ B.length → Fine B (forceL fr first s j m)
  | 0, _ => h
  | m + 1, hm => (fine_forceL h (by omega)).snoc (by omega) (length_sectorL (length_chunkL _ _))
def forceN (S : LogS) : List Snt := if S.forced = S.last then [] else forceL S.fr S.first S.stream (S.durable / 112) ((S.stream.length + 111) / 112 - S.durable / 112)
def forceS (S : LogS) : LogS := if S.forced = S.last then S else { S with durable := S.stream.length, forced := S.last }
theorem bvs_chunk (s : List UInt8) (i : Nat) (h : i * 112 ≤ s.length) : chunkL s i = (s.drop (i * 112)).take (min s.length ((i + 1) * 112) - i * 112) := by
  unfold chunkL
  rcases Nat.le_total s.length ((i + 1) * 112) with h1 | h1
  · rw [Nat.min_eq_left h1, List.take_of_length_le (by rw [List.length_drop]; omega), List.take_of_length_le (by rw [List.length_drop]; omega)]
  · rw [Nat.min_eq_right h1]
    congr 1
    omega

theorem disk_Write_at {F G : Nat → Prop} (w : World) {s : Nat} {B : List (List UInt8)} {P : List Snt} (h : DiskRep F w s B P) {i : Nat} (hi : i < B.length) (hP : P.length ≤ 4000000000000) {a : Option Addr} (c : Nat) {xs : List UInt8} (hr : Row G w a (bvs xs)) (hx : xs.length = 128) :
    Calls Tryd.prog 76 #[.pointer (some ⟨s, 0, none⟩), .int .i64 i, .slice a 128 c] w (DGot 76 F w s (.int .i64 0) B (P ++ [(i, xs)])) := by
  have := disk_Write_yes w h hi hP c hr hx
  rwa [hx] at this

set_option maxRecDepth 100000 in
set_option maxHeartbeats 4000000 in
theorem log_Force {F : Nat → Prop} (w : World) {s d : Nat} {S : LogS} {B : List (List UInt8)} (h : LogLD F w s d S B []) (hf : LFine S) (hB : Fine B []) (hfr : S.fr + S.sectors ≤ B.length) (tab : Tab w) :
    Calls Tryd.prog 43 #[.pointer (some ⟨s, 0, none⟩)] w (LogLDGot F w s d (.int .i64 0) (forceS S) (applyP B (forceN S)) []) := by
  have HLD := Lib.hid h
  have HFi := Lib.hid hf
  have HBf := Lib.hid hB
  have HT := Lib.hid tab
  obtain ⟨h0, FL, FD, hL, hD, hl, hd⟩ := h
  have HN := Lib.hid (log_none_no w hl)
  obtain ⟨R, a, c, k1, k2, k3, k4⟩ := hl
  have hsD : ¬ FD s := (hL s k1).2.1
  have c0 : w.cell? ⟨s, 0, none⟩ = some (.pointer (some ⟨d, 0, none⟩)) := k3.cell 0
  have c4 : w.cell? ⟨s, 4, none⟩ = some (.int .i64 (S.last : Int)) := k3.cell 4
  have c5 : w.cell? ⟨s, 5, none⟩ = some (.int .i64 (S.forced : Int)) := k3.cell 5
  have c7 : w.cell? ⟨s, 7, none⟩ = some (.int .i64 (S.durable : Int)) := k3.cell 7
  have HL := Lib.hid hL
  have HD := Lib.hid hD
  have HDk := Lib.hid hd
  have HK := Lib.hid (And.intro k1 (And.intro k2 (And.intro k3 k4)))
  have H0 := Lib.hid h0
  have hlen : S.stream.length ≤ 458752 := by have := hf.stream; have := hf.le; omega
  have hdur := hf.durable
  have hsec := hf.stream
  have hle := hf.le
  have hfirst := hf.first2
  clear hf hB tab hL hD hd k1 k2 k3 k4 h0
  by_cases hq : S.forced = S.last
  · have e1 : forceS S = S := if_pos hq
    have e2 : forceN S = [] := if_pos hq
    rw [e1, e2]
    have hb : ((S.forced : Int) == (S.last : Int)) = true := by rw [hq]; exact beq_self_eq_true _
    clear e1 e2
    go_enter Tryd.func43, Tryd.ntmps43
    go_wp2_with (go_at_call 75; refine HN.out.mono ?_; rintro e w' ⟨rfl, rfl⟩)
    go_quiet (fail)
    go_wp2
    go_ret
    exact LDGot.same HLD.out ((Upd.refl Nil w).drewN _)
  · have e1 : forceS S = { S with durable := S.stream.length, forced := S.last } := if_neg hq
    have e2 : forceN S = forceL S.fr S.first S.stream (S.durable / 112) ((S.stream.length + 111) / 112 - S.durable / 112) := if_neg hq
    rw [e1, e2]
    have hb : ((S.forced : Int) == (S.last : Int)) = false := by rw [beq_eq_false_iff_ne]; omega
    clear e1 e2
    obtain ⟨j0, hj0⟩ : ∃ n, S.durable / 112 = n := ⟨_, rfl⟩
    obtain ⟨m, hm⟩ : ∃ n, (S.stream.length + 111) / 112 - S.durable / 112 = n := ⟨_, rfl⟩
    rw [hj0] at hm ⊢
    rw [hm]
    have v1 : Int.tdiv (S.durable : Int) 112 = (j0 : Int) := by rw [← hj0]; rfl
    go_enter Tryd.func43, Tryd.ntmps43
    go_wp2_with (go_at_call 75; refine HN.out.mono ?_; rintro e w' ⟨rfl, rfl⟩)
    go_quiet (fail)
    go_wp2
    go_loopg [3] m (fun k i wr => ∃ j : Nat, j + k = m ∧ i = .int .i64 ((j0 + j : Nat) : Int) ∧ ∃ FD', DiskRep FD' wr d B (forceL S.fr S.first S.stream j0 j) ∧ Upd FD w wr ∧ ∀ k, FD' k → FD k ∨ Fr w wr k)
    case atStart => exact ⟨0, by omega, rfl, FD, HDk.out.upd ((Upd.refl Nil w).drewN _) (fun _ _ f => f), (Upd.refl FD w).drewN _, fun _ hk => .inl hk⟩
    case round =>
      obtain ⟨j, hjk, rfl, FD', hrep, hup, hFD⟩ := hrel
      obtain ⟨k1, k2, k3, k4⟩ := HK.out
      have b3 := k3.upd hup hsD
      have d0 : wr.cell? ⟨s, 0, none⟩ = some (.pointer (some ⟨d, 0, none⟩)) := b3.cell 0
      have d1 : wr.cell? ⟨s, 1, none⟩ = some (.int .i64 (S.fr : Int)) := b3.cell 1
      have d3 : wr.cell? ⟨s, 3, none⟩ = some (.int .i64 (S.first : Int)) := b3.cell 3
      have d4 : wr.cell? ⟨s, 4, none⟩ = some (.int .i64 (S.last : Int)) := b3.cell 4
      have d6 : wr.cell? ⟨s, 6, none⟩ = some (.slice a S.stream.length c) := b3.cell 6
      have hRD : ∀ k, R k → ¬ FD k := fun k hk => (HL.out k (k2 k hk).1).2.1
      have hrow : Row R wr a (bvs S.stream) := k4.1.upd hup hRD
      have hlc : S.stream.length ≤ c := k4.2.2.1
      have hcm : c ≤ maxLen := k4.2.2.2.1
      have hac : a = none → c = 0 := k4.2.1
      have hjm : j ≤ m := by omega
      have htab : Tab wr := HT.out.upd hup (fun q => H0.out (HD.out 0 q).1)
      obtain ⟨J, hJ⟩ : ∃ J, j0 + j = J := ⟨_, rfl⟩
      have HRep := Lib.hid hrep
      have HU := Lib.hid hup
      have HFD := Lib.hid hFD
      have HB3 := Lib.hid b3
      have HRow := Lib.hid hrow
      have HTab := Lib.hid htab
      have HJ := Lib.hid hjk
      have HJ2 := Lib.hid hJ
      have HsD' : Hid (¬ FD' s) := Lib.hid (fun q => (hFD s q).elim hsD (fun q => absurd q.1 (by have := (HL.out s k1).2.2; omega)))
      clear c0 c4 c5 c7 hrep hup hFD k1 k2 k3 k4 b3 hrow htab hRD hb
      rw [hJ]
      by_cases hlt : j < m
      · have hJl : J * 112 < S.stream.length := by omega
        clear hJ hjk
        obtain ⟨ab, ao, ea, _, _⟩ := HRow.out (fun e => by have e2 := congrArg List.length e; rw [length_bvs, List.length_nil] at e2; omega)
        subst ea
        have s1 : IntKind.i64.wrap ((J : Int) * 112) = ((J * 112 : Nat) : Int) := by rw [IntWalk.i64_in _ (by omega)]; rfl
        have s2 : IntKind.i64.wrap ((J : Int) + 1) = ((J + 1 : Nat) : Int) := by rw [IntWalk.i64_in _ (by omega)]; rfl
        have s3 : IntKind.i64.wrap (((J + 1 : Nat) : Int) * 112) = (((J + 1) * 112 : Nat) : Int) := by rw [IntWalk.i64_in _ (by omega)]; rfl
        go_wp2_with fail
        go_quiet (fail)
        all_goals go_wp2_with fail
        all_goals first
          | (obtain ⟨n, hn⟩ : ∃ n, (((J : Int) + 1) * 112).toNat - J * 112 = n := ⟨_, rfl⟩
             rw [hn]
             have hn2 : Hid (n = min (S.stream.length - J * 112) 112) := Lib.hid (by omega)
             have hn4 : n ≤ 112 := by omega
             have hn5 : n ≤ S.stream.length - J * 112 := by omega
             clear hn)
          | (obtain ⟨n, hn⟩ : ∃ n, S.stream.length - J * 112 = n := ⟨_, rfl⟩
             rw [hn]
             have hn2 : Hid (n = min (S.stream.length - J * 112) 112) := Lib.hid (by omega)
             have hn4 : n ≤ 112 := by omega
             have hn5 : n ≤ S.stream.length - J * 112 := by omega
             clear hn)
        all_goals
          have hrow2 : Row R wr (some ⟨ab, ao + J * 112, none⟩) (bvs (chunkL S.stream J)) := by
            have e1 : bvs (chunkL S.stream J) = ((bvs S.stream).drop (J * 112)).take 112 := by simp [chunkL, bvs, List.map_drop, List.map_take]
            rw [e1]
            exact HRow.out.cut (J * 112) 112 (by intro e; have e2 := congrArg List.length e; rw [List.length_take, List.length_drop, length_bvs, List.length_nil] at e2; omega) rfl
          have hn3 : (chunkL S.stream J).length = n := by have := hn2.out; rw [chunkL, List.length_take, List.length_drop]; omega
          have HRow2 := Lib.hid hrow2
          have HN3 := Lib.hid hn3
          have s4 : IntKind.i64.wrap ((S.fr : Int) + (J : Int)) = ((S.fr + J : Nat) : Int) := by rw [IntWalk.i64_in _ (by omega)]; rfl
          clear hrow2 hn3
          go_region_held3 (fun W => W.cell? ⟨s, 0, none⟩ = some (.pointer (some ⟨d, 0, none⟩)) ∧ W.cell? ⟨s, 1, none⟩ = some (.int .i64 (S.fr : Int)) ∧ W.cell? ⟨s, 3, none⟩ = some (.int .i64 (S.first : Int))) (first | exact ⟨x0, x1, x3⟩ | exact ⟨m0, m1, m3⟩ | exact ⟨d0, d1, d3⟩)
            (first
              | (go_at_call 77; refine (log_sector _ J S.first (by omega) (by omega) (c - J * 112) (HRow2.out.drewN _) (fun e => by cases e) (by rw [HN3.out]; omega) (by omega) HN3.out (by omega) (HTab.out.upd ((Upd.refl Nil wr).drewN _) (fun f => f))).mono ?_; rintro e w1 ⟨a1, c1, rfl, g1, g2⟩; have m0 := g2.cell d0 (fun f => f); have m1 := g2.cell d1 (fun f => f); have m3 := g2.cell d3 (fun f => f); have HB1 := Lib.hid (HB3.out.upd g2.ofDrewN (fun f => f)); have HO1 := Lib.hid g1; have HU1 := Lib.hid g2; clear g1 g2)
              | (go_at_call 76; refine (disk_Write_at _ (HRep.out.upd HU1.out.ofDrewN (fun _ _ f => f)) (i := S.fr + J) (by have := HJ2.out; have := HJ.out; omega) (by rw [length_forceL]; omega) c1 HO1.out.row (length_sectorL (by rw [HN3.out]; omega))).mono ?_; rintro e w2 ⟨rfl, F2, g1, g2, g3⟩; have b2 := HB1.out.upd g2 HsD'.out; have x0 : w2.cell? ⟨s, 0, none⟩ = some (.pointer (some ⟨d, 0, none⟩)) := b2.cell 0; have x1 : w2.cell? ⟨s, 1, none⟩ = some (.int .i64 (S.fr : Int)) := b2.cell 1; have x3 : w2.cell? ⟨s, 3, none⟩ = some (.int .i64 (S.first : Int)) := b2.cell 3; have HG1 := Lib.hid g1; have HG2 := Lib.hid g2; have HG3 := Lib.hid g3; clear g1 g2 g3 b2))
        all_goals go_wp2
        all_goals go_roundg (gk - 1)
        all_goals first
          | (have := HJ.out; omega)
          | (have hu1 := HU1.out.ofDrewN.ofNil (G := FD')
             have e1 : chunkL S.stream J = chunkL S.stream (j0 + j) := by rw [HJ2.out]
             refine ⟨j + 1, by have := HJ.out; omega, by have := HJ2.out; go_num, F2, ?_, ?_, ?_⟩
             · rw [forceL, HJ2.out]
               exact HG1.out
             · refine HU.out.trans (hu1.trans HG2.out (fun k hk _ => hk)) (fun k hk hlt => (HFD.out k hk).elim id (fun q => absurd q.1 (by omega)))
             · intro k hk
               rcases HG3.out k hk with q | q
               · exact (HFD.out k q).imp id (Fr.on (Nat.le_trans hu1.size HG2.out.size) k)
               · exact .inr (Fr.back (Nat.le_trans HU.out.size hu1.size) k q))
      · have hJl : S.stream.length ≤ J * 112 := by omega
        have hjm2 : j = m := by omega
        have s1 : IntKind.i64.wrap ((J : Int) * 112) = ((J * 112 : Nat) : Int) := by rw [IntWalk.i64_in _ (by omega)]; rfl
        clear hJ hjk
        go_wp2_with (go_at_call 78; refine (disk_Flush wr HRep.out (fine_forceL HBf.out (by have := HFi.out.stream; omega)) (by rw [length_forceL]; omega)).mono ?_; rintro e w2 ⟨rfl, F2, g1, g2, g3⟩; have b2 := HB3.out.upd g2 (fun q => hsD ((HFD.out s q).elim id (fun q => absurd q.1 (by have := (HL.out s HK.out.1).2.2; omega)))); have e4 : w2.cell? ⟨s, 4, none⟩ = some (.int .i64 (S.last : Int)) := b2.cell 4; have e6 : w2.cell? ⟨s, 6, none⟩ = some (.slice a S.stream.length c) := b2.cell 6; have f5 := b2.frozen 5; have f7 := b2.frozen 7; have e5 : w2.cell? ⟨s, 5, none⟩ = some (.int .i64 (S.forced : Int)) := b2.cell 5; have e7 : w2.cell? ⟨s, 7, none⟩ = some (.int .i64 (S.durable : Int)) := b2.cell 7; have HB2 := Lib.hid b2; have HG1 := Lib.hid g1; have HG2 := Lib.hid g2; have HG3 := Lib.hid g3; clear g1 g2 g3 b2 d0 d1 d3 d4 d6)
        go_region
        all_goals go_wp2
        go_ret
        obtain ⟨k1, k2, k3, k4⟩ := HK.out
        have hsz := (HL.out s k1).2.2
        have UU : Upd FD w w2 := HU.out.trans HG2.out (fun k hk hlt => (HFD.out k hk).elim id (fun q => absurd q.1 (by omega)))
        have hF2 : ∀ k, F2 k → FD k ∨ Fr w w2 k := fun k hk => by
          rcases HG3.out k hk with q | q
          · exact (HFD.out k q).imp id (Fr.on HG2.out.size k)
          · exact .inr (Fr.back HU.out.size k q)
        have one : Upd (One s) w2 ((w2.setCell ⟨s, 7, none⟩ (.int .i64 (S.stream.length : Int))).setCell ⟨s, 5, none⟩ (.int .i64 (S.last : Int))).drew := (((Upd.refl (One s) w2).setCell (p := ⟨s, 7, none⟩) (.inl rfl) _).setCell (p := ⟨s, 5, none⟩) (.inl rfl) _).drew
        have hz := UU.size
        have hz1 := one.size
        have hg1 := HG1.out
        rw [hjm2] at hg1
        refine LDGot.disk H0.out HL.out HD.out ⟨R, a, c, k1, fun k hk => ⟨(k2 k hk).1, (k2 k hk).2.1, by have := (k2 k hk).2.2; omega⟩, ((HB2.out.set 7 (.int .i64 (S.stream.length : Int))).set 5 (.int .i64 (S.last : Int))).drew, (k4.upd UU (fun k hk => (HL.out k (k2 k hk).1).2.1)).upd one (fun k hk e => (k2 k hk).2.1 e)⟩ (hg1.upd one (fun k hk e => ?_)) ?_ (fun k hk => (hF2 k hk).imp id (Fr.on hz1 k))
        · subst e
          rcases hF2 k hk with q | q
          · exact hsD q
          · have := q.1; omega
        · exact ((UU.mono (fun k hk => (HD.out k hk).1)).trans one (fun k hk _ => by rw [show k = s from hk]; exact (HL.out s k1).1))

def resetC (S : LogS) : Int := if 4611686018427387904 ≤ S.last then 4 else 0
def resetS (S : LogS) : LogS := if 4611686018427387904 ≤ S.last then S else { S with first := S.last + 1, forced := S.last, stream := [], durable := 0 }
def resetN (S : LogS) : List Snt := if 4611686018427387904 ≤ S.last then [] else [(S.fr, sectorL 0 (S.last + 1) [])]

set_option maxRecDepth 100000 in
set_option maxHeartbeats 4000000 in
theorem log_Reset {F : Nat → Prop} (w : World) {s d : Nat} {S : LogS} {B : List (List UInt8)} (h : LogLD F w s d S B []) (hf : LFine S) (hB : Fine B []) (hfr : S.fr + S.sectors ≤ B.length) (tab : Tab w) :
    Calls Tryd.prog 44 #[.pointer (some ⟨s, 0, none⟩)] w (LogLDGot F w s d (.int .i64 (resetC S)) (resetS S) (applyP B (resetN S)) []) := by
  have HLD := Lib.hid h
  have HBf := Lib.hid hB
  have HT := Lib.hid tab
  obtain ⟨h0, FL, FD, hL, hD, hl, hd⟩ := h
  have HN := Lib.hid (log_none_no w hl)
  obtain ⟨R, a, c, k1, k2, k3, k4⟩ := hl
  have hsD : ¬ FD s := (hL s k1).2.1
  have c3 : w.cell? ⟨s, 3, none⟩ = some (.int .i64 (S.first : Int)) := k3.cell 3
  have c4 : w.cell? ⟨s, 4, none⟩ = some (.int .i64 (S.last : Int)) := k3.cell 4
  have c5 : w.cell? ⟨s, 5, none⟩ = some (.int .i64 (S.forced : Int)) := k3.cell 5
  have c6 : w.cell? ⟨s, 6, none⟩ = some (.slice a S.stream.length c) := k3.cell 6
  have c7 : w.cell? ⟨s, 7, none⟩ = some (.int .i64 (S.durable : Int)) := k3.cell 7
  have f3 := k3.frozen 3
  have f5 := k3.frozen 5
  have f6 := k3.frozen 6
  have f7 := k3.frozen 7
  have HL := Lib.hid hL
  have HD := Lib.hid hD
  have HDk := Lib.hid hd
  have HK := Lib.hid (And.intro k1 (And.intro k2 (And.intro k3 k4)))
  have H0 := Lib.hid h0
  have HPos := Lib.hid hf.pos
  clear hf hB tab hL hD hd k1 k2 k3 k4 h0
  by_cases hq : 4611686018427387904 ≤ S.last
  · have e1 : resetS S = S := if_pos hq
    have e2 : resetN S = [] := if_pos hq
    have e3 : resetC S = 4 := if_pos hq
    rw [e1, e2, e3]
    clear e1 e2 e3 c3 c5 c6 c7 f3 f5 f6 f7
    have hq3 : decide ((4611686018427387904 : Int) ≤ (S.last : Int)) = true := by rw [decide_eq_true_eq]; omega
    clear hq
    go_enter Tryd.func44, Tryd.ntmps44
    go_wp2_with (go_at_call 75; refine HN.out.mono ?_; rintro e w' ⟨rfl, rfl⟩)
    go_ret
    exact LDGot.same HLD.out (Upd.refl Nil w)
  · have hq2 : S.last < 4611686018427387904 := by omega
    clear hq
    have hq : ¬ 4611686018427387904 ≤ S.last := by omega
    have e1 : resetS S = { S with first := S.last + 1, forced := S.last, stream := [], durable := 0 } := if_neg hq
    have e2 : resetN S = [(S.fr, sectorL 0 (S.last + 1) [])] := if_neg hq
    have e3 : resetC S = 0 := if_neg hq
    rw [e1, e2, e3]
    clear e1 e2 e3 hq
    have hq3 : decide ((4611686018427387904 : Int) ≤ (S.last : Int)) = false := by rw [decide_eq_false_iff_not]; omega
    have s1 : IntKind.i64.wrap ((S.last : Int) + 1) = ((S.last + 1 : Nat) : Int) := by rw [IntWalk.i64_in _ (by omega)]; rfl
    have HQ2 := Lib.hid hq2
    clear hq2
    go_enter Tryd.func44, Tryd.ntmps44
    go_wp2_with (go_at_call 75; refine HN.out.mono ?_; rintro e w' ⟨rfl, rfl⟩)
    go_region
    all_goals go_wp2_with fail
    obtain ⟨W, hW⟩ : ∃ W, ((((w.setCell ⟨s, 3, none⟩ (.int .i64 ((S.last : Int) + 1))).setCell ⟨s, 5, none⟩ (.int .i64 (S.last : Int))).setCell ⟨s, 6, none⟩ (.slice none 0 0)).setCell ⟨s, 7, none⟩ (.int .i64 0)).drew = W := ⟨_, rfl⟩
    rw [hW]
    have one : Upd (One s) w W := by
      rw [← hW]
      exact (((((Upd.refl (One s) w).setCell (p := ⟨s, 3, none⟩) (.inl rfl) _).setCell (p := ⟨s, 5, none⟩) (.inl rfl) _).setCell (p := ⟨s, 6, none⟩) (.inl rfl) _).setCell (p := ⟨s, 7, none⟩) (.inl rfl) _).drew
    have bW : Blk W s 69 (logCells d { S with first := S.last + 1, forced := S.last, stream := [], durable := 0 } none 0) := by
      rw [← hW]
      exact ((((HK.out.2.2.1.set 3 (.int .i64 ((S.last : Int) + 1))).set 5 (.int .i64 (S.last : Int))).set 6 (.slice none 0 0)).set 7 (.int .i64 0)).drew
    have d0 : W.cell? ⟨s, 0, none⟩ = some (.pointer (some ⟨d, 0, none⟩)) := bW.cell 0
    have d1 : W.cell? ⟨s, 1, none⟩ = some (.int .i64 (S.fr : Int)) := bW.cell 1
    have d3 : W.cell? ⟨s, 3, none⟩ = some (.int .i64 ((S.last + 1 : Nat) : Int)) := bW.cell 3
    have HB3 := Lib.hid bW
    have HU := Lib.hid one
    have HW := Lib.hid hW
    have HTab := Lib.hid (HT.out.upd one (fun (q : 0 = s) => H0.out (by rw [q]; exact (HL.out s HK.out.1).1)))
    have HDW := Lib.hid (HDk.out.upd one (fun k hk (q : k = s) => hsD (by rw [← q]; exact hk)))
    clear hW one bW c3 c4 c5 c6 c7 f3 f5 f6 f7
    go_region_held3 (fun W => W.cell? ⟨s, 0, none⟩ = some (.pointer (some ⟨d, 0, none⟩)) ∧ W.cell? ⟨s, 1, none⟩ = some (.int .i64 (S.fr : Int)) ∧ W.cell? ⟨s, 3, none⟩ = some (.int .i64 ((S.last + 1 : Nat) : Int))) (first | exact ⟨x0, x1, x3⟩ | exact ⟨m0, m1, m3⟩ | exact ⟨d0, d1, d3⟩)
      (first
        | (go_at_call 77; refine (log_sector (F := Nil) (load := []) (n := 0) _ 0 (S.last + 1) (by omega) (by have := HQ2.out; omega) 0 (Row.nil _ _ none) (fun _ => rfl) (Nat.le_refl _) (Nat.zero_le _) rfl (Nat.zero_le _) (HTab.out.upd (Upd.refl Nil W).drew (fun f => f))).mono ?_; rintro e w1 ⟨a1, c1, rfl, g1, g2⟩; have m0 := g2.cell d0 (fun f => f); have m1 := g2.cell d1 (fun f => f); have m3 := g2.cell d3 (fun f => f); have HB1 := Lib.hid (HB3.out.upd g2.ofDrew (fun f => f)); have HO1 := Lib.hid g1; have HU1 := Lib.hid g2; clear g1 g2)
        | (go_at_call 76; refine (disk_Write_at _ (HDW.out.upd HU1.out.ofDrew (fun _ _ f => f)) (i := S.fr) (by have := HPos.out; omega) (by simp) c1 HO1.out.row (length_sectorL (Nat.zero_le _))).mono ?_; rintro e w2 ⟨rfl, F2, g1, g2, g3⟩; have b2 := HB1.out.upd g2 hsD; have x0 : w2.cell? ⟨s, 0, none⟩ = some (.pointer (some ⟨d, 0, none⟩)) := b2.cell 0; have x1 : w2.cell? ⟨s, 1, none⟩ = some (.int .i64 (S.fr : Int)) := b2.cell 1; have x3 : w2.cell? ⟨s, 3, none⟩ = some (.int .i64 ((S.last + 1 : Nat) : Int)) := b2.cell 3; have HB2 := Lib.hid b2; have HG1 := Lib.hid g1; have HG2 := Lib.hid g2; have HG3 := Lib.hid g3; clear g1 g2 g3 b2))
    all_goals go_wp2_with (go_at_call 78; refine (disk_Flush w2 HG1.out (HBf.out.snoc (by have := HPos.out; omega) (length_sectorL (Nat.zero_le _))) (by simp)).mono ?_; rintro e w3 ⟨rfl, F3, g1, g2, g3⟩; have HH1 := Lib.hid g1; have HH2 := Lib.hid g2; have HH3 := Lib.hid g3; clear g1 g2 g3)
    go_ret
    obtain ⟨k1, k2, k3, k4⟩ := HK.out
    have hsz := (HL.out s k1).2.2
    have U1 : Upd Nil W w1 := HU1.out.ofDrew
    have z1 := HU.out.size
    have z2 := U1.size
    have z3 := HG2.out.size
    have z4 := HH2.out.size
    have hF2 : ∀ k, F2 k → FD k ∨ Fr w w2 k := fun k hk => (HG3.out k hk).imp id (Fr.back (Nat.le_trans z1 z2) k)
    have hF3 : ∀ k, F3 k → FD k ∨ Fr w w3 k := fun k hk => by
      rcases HH3.out k hk with q | q
      · exact (hF2 k q).imp id (Fr.on z4 k)
      · exact .inr (Fr.back (Nat.le_trans z1 (Nat.le_trans z2 z3)) k q)
    have hs2 : ¬ F2 s := fun q => (hF2 s q).elim hsD (fun q => absurd q.1 (by omega))
    have up : Upd F w w3 := ((HU.out.trans U1 (G := One s) (fun _ f _ => f.elim)).mono (G' := F) (fun k hk => by rw [show k = s from hk]; exact (HL.out s k1).1)).trans (HG2.out.trans HH2.out (fun k hk hlt => (HG3.out k hk).elim id (fun q => absurd q.1 (by omega)))) (fun k hk _ => (HD.out k hk).1)
    exact LDGot.disk H0.out HL.out HD.out ⟨Nil, none, 0, k1, fun _ f => f.elim, HB2.out.upd HH2.out hs2, Held.none_ _ _⟩ HH1.out up hF3
end Go.Proofs.YtbaombnnagidcaaDoor

namespace Go.Proofs.YtbaombnnagidcaaDoor
open Go.RowKit Go.Shelf
attribute [local go_sem] Oper.semAt_some

/-- what has come when k rounds are over: from behind -/
def backs (m k : Nat) : List (Fin m) := (List.range k).filterMap (fun q => if h : m - 1 - q < m then some ⟨m - 1 - q, h⟩ else none)
theorem backs_succ (m k : Nat) (h : k < m) : backs m (k + 1) = backs m k ++ [⟨m - 1 - k, by omega⟩] := by
  simp only [backs, List.range_succ, List.filterMap_append]
  rw [List.filterMap_cons, dif_pos (show m - 1 - k < m by omega)]
  rfl
theorem backs_length (m : Nat) : ∀ k, k ≤ m → (backs m k).length = k
  | 0, _ => rfl
  | k + 1, h => by rw [backs_succ m k h, List.length_append, backs_length m k (by omega)]; rfl
theorem mem_backs {m k : Nat} {j : Fin m} (hk : k ≤ m) : j ∈ backs m k ↔ m - k ≤ j.1 := by
  induction k with
  | zero =>
    have := j.2
    simp [backs]
  | succ k ih =>
    rw [backs_succ m k hk, List.mem_append, ih (by omega), List.mem_singleton]
    constructor
    · rintro (h | rfl)
      · omega
      · show m - (k + 1) ≤ m - 1 - k
        omega
    · intro h
      by_cases e : m - k ≤ j.1
      · exact .inl e
      · exact .inr (Fin.ext (by show j.1 = m - 1 - k; omega))

set_option maxRecDepth 100000 in
set_option maxHeartbeats 2000000 in
theorem backward1_in (F : Fence) (n : Nat) (h7 : F.fn 120) (hro : F.round = none) (hn : 1 ≤ n) (l Bs n₀ b m cap : Nat) (A V : Nat → Value) (hm : m ≤ 4000000000000) (hb : b < n₀) (hBn : Bs < n₀) (J Jx : List (Fin m) → World → Prop)
    (hY : ∀ (pre : List (Fin m)) (x : Fin m) (W : World), J pre W → pre.length < m → YieldAt F (n - 1) Tryd.prog l #[.int .i64 (x.1 : Int), .agg #[A x.1, V x.1]] W fun e W' =>
      (e = .returned (.bool true) ∧ J (pre ++ [x]) W' ∧ Below n₀ W W') ∨ (e = .returned (.bool false) ∧ Jx (pre ++ [x]) W'))
    (W : World) (hBs : W.cell? ⟨Bs, 0, none⟩ = some (.slice (some ⟨b, 0, none⟩) m cap)) (hc : ∀ j, j < m → W.cell? ⟨b, j * 2, none⟩ = some (A j) ∧ W.cell? ⟨b, j * 2 + 1, none⟩ = some (V j)) (h0 : J [] W) :
    CallsIn F n Tryd.prog 120 #[.func (.yield l) #[] #[], .pointer (some ⟨Bs, 0, none⟩)] W fun e W' => (∃ v, e = .returned v) ∧
      ((∃ ys, ys = backs m m ∧ J ys W') ∨ (∃ pre, (∃ k, k ≤ m ∧ pre = backs m k) ∧ Jx pre W')) := by
  refine callsIn_of_wp Tryd.func120 rfl h7 ?_ hro
  simp only [Tryd.ntmps120, List.size_toArray, List.length_cons, List.length_nil, Nat.reduceAdd, Nat.reduceSub, Array.replicate_succ, Array.replicate_zero, List.push_toArray, List.append_toArray, List.nil_append, List.cons_append]
  have hw0 : IntKind.i64.wrap ((m : Int) - 1) = (m : Int) - 1 := IntWalk.i64_in _ (by omega)
  gi_wp2
  gi_loopw [3] (fun i wr => ∃ k : Nat, k ≤ m ∧ i = .int .i64 ((m : Int) - 1 - k) ∧ J (backs m k) wr ∧ Below n₀ W wr)
    (fun i _ => (intOf i + 1).toNat)
  case atStart => exact ⟨0, Nat.zero_le _, by simp, h0, Below.refl _ _⟩
  case round =>
    obtain ⟨k, hk, rfl, hJs, hnx⟩ := hrel
    by_cases hlt : k < m
    · obtain ⟨j, hj⟩ : ∃ j, j = m - 1 - k := ⟨_, rfl⟩
      have hji : (m : Int) - 1 - k = (j : Int) := by omega
      have hjm : j < m := by omega
      obtain ⟨fn, tmps, assign, body, hy, hR⟩ := hY _ ⟨j, hjm⟩ wr hJs (by rw [backs_length m k hk]; exact hlt)
      dsimp only at hy
      have hcB := (hnx.cell (p := ⟨Bs, 0, none⟩) hBn).trans hBs
      have hcA := (hnx.cell (p := ⟨b, j * 2, none⟩) hb).trans (hc j hjm).1
      have hcV := (hnx.cell (p := ⟨b, j * 2 + 1, none⟩) hb).trans (hc j hjm).2
      have hw1 : IntKind.i64.wrap ((j : Int) - 1) = (j : Int) - 1 := IntWalk.i64_in _ (by omega)
      have HJ := Lib.hid hj
      rw [hji]
      clear hj hji
      gi_wp2
      refine hR.mono ?_
      rintro e W3 (⟨rfl, hJ3, hk3⟩ | ⟨rfl, hJx3⟩)
      · -- the round goes on
        gi_wp2
        go_roundw
        case rel => exact ⟨k + 1, by omega, by have := HJ.out; congr 1; omega, by rw [backs_succ m k hlt]; simp only [← HJ.out]; exact hJ3, hnx.trans hk3⟩
        case measure => simp [intOf]
      · gi_wp2
        refine bodyPost_ret (results_none rfl _ _ _) rfl ?_
        exact ⟨⟨_, rfl⟩, .inr ⟨_, ⟨k + 1, by omega, by rw [backs_succ m k hlt]; simp only [← HJ.out]⟩, hJx3⟩⟩
    · obtain rfl : k = m := by omega
      have hji : (k : Int) - 1 - k = -1 := by omega
      rw [hji]
      gi_wp2
      go_end0
      exact ⟨⟨_, rfl⟩, .inl ⟨_, rfl, hJs⟩⟩

set_option maxRecDepth 100000 in
set_option maxHeartbeats 1000000 in
theorem backward1_nil_in {m : Nat} (F : Fence) (n : Nat) (h7 : F.fn 120) (hro : F.round = none) (l Bs : Nat) (J : List (Fin m) → World → Prop) (W : World) (hBs : W.cell? ⟨Bs, 0, none⟩ = some (.slice none 0 0)) (h0 : J [] W) :
    CallsIn F n Tryd.prog 120 #[.func (.yield l) #[] #[], .pointer (some ⟨Bs, 0, none⟩)] W fun e W' => (∃ v, e = .returned v) ∧ J [] W' := by
  refine callsIn_of_wp Tryd.func120 rfl h7 ?_ hro
  simp only [Tryd.ntmps120, List.size_toArray, List.length_cons, List.length_nil, Nat.reduceAdd, Nat.reduceSub, Array.replicate_succ, Array.replicate_zero, List.push_toArray, List.append_toArray, List.nil_append, List.cons_append]
  have hw0 : IntKind.i64.wrap (-1) = -1 := IntWalk.i64_in _ (by omega)
  gi_wp2
  gi_loopw [3] (fun i wr => i = .int .i64 (-1) ∧ J [] wr) (fun _ _ => 0)
  case atStart => exact ⟨rfl, h0⟩
  case round =>
    obtain ⟨rfl, hJs⟩ := hrel
    gi_wp2
    go_end0
    exact ⟨⟨_, rfl⟩, hJs⟩

set_option maxHeartbeats 1000000 in
theorem backward_in (F : Fence) (n : Nat) (h5 : F.fn 100) (hro : F.round = none) (a : Option Addr) (len cap : Nat) (w : World) :
    CallsIn F n Tryd.prog 100 #[.slice a len cap] w fun e w' => e = .returned (.func (.func 120) #[] #[.pointer (some ⟨w.heap.size, 0, none⟩)]) ∧ w' = w.alloc (.cells #[.slice a len cap] 74) := by
  refine callsIn_of_wp Tryd.func100 rfl h5 ?_ hro
  simp only [Tryd.ntmps100, List.size_toArray, List.length_cons, List.length_nil, Nat.reduceAdd, Nat.reduceSub, Array.replicate_succ, Array.replicate_zero, List.push_toArray, List.append_toArray, List.nil_append, List.cons_append]
  gi_wp2
  go_ret
  exact ⟨rfl, rfl⟩

theorem backward_stops (F : Fence) (n : Nat) (h7 : F.fn 120) (hro : F.round = none) (hn : 1 ≤ n) {Q : Nat → Prop} {p : Option Addr} {m cap Bs n₀ : Nat} {us : List Value} (hm : m ≤ 4000000000000) (w : World) (hBs : Bs < n₀) (hn₀ : n₀ ≤ w.heap.size)
    (hc : w.cell? ⟨Bs, 0, none⟩ = some (.slice p m cap)) (hown : Own Q w 145 2 p m cap us) (hQ : ∀ k, Q k → k < n₀) (A V : Nat → Value) (hus : ∀ j, j < m → us[j * 2]? = some (A j) ∧ us[j * 2 + 1]? = some (V j)) :
    SeqStopsK F n Tryd.prog 120 #[.pointer (some ⟨Bs, 0, none⟩)] (fun x : Fin m => #[Value.int .i64 (x.1 : Int), .agg #[A x.1, V x.1]]) (Below n₀) (fun ys => ys = backs m m) (fun pre => ∃ k, k ≤ m ∧ pre = backs m k) m w := fun l J Jx W hW _ _ hY h0 => by
  have hc' := (hW.cell (p := ⟨Bs, 0, none⟩) (by show Bs < w.heap.size; omega)).trans hc
  rcases hown.2 with ⟨rfl, rfl, rfl⟩ | ⟨g, cur, rfl, hg, h3, _⟩
  · refine (backward1_nil_in F n h7 hro l Bs J W hc' h0).mono fun e W' ⟨he, hj⟩ => ⟨he, .inl ⟨_, ?_, hj⟩⟩
    rfl
  · have hgn : g < n₀ := hQ g hg
    refine backward1_in F n h7 hro hn l Bs n₀ g m cap A V hm hgn hBs J Jx hY W hc' (fun j hj => ?_) h0
    have hrow : ∀ i u, us[i]? = some u → w.cell? ⟨g, i, none⟩ = some u := by
      intro i u hu
      obtain ⟨b, o, e, _, h⟩ := hown.row (by rintro rfl; simp at hu)
      obtain ⟨rfl, rfl⟩ : g = b ∧ 0 = o := by simpa using e
      simpa using h i u hu
    exact ⟨(hW.cell (p := ⟨g, j * 2, none⟩) (by show g < w.heap.size; omega)).trans (hrow _ _ (hus j hj).1), (hW.cell (p := ⟨g, j * 2 + 1, none⟩) (by show g < w.heap.size; omega)).trans (hrow _ _ (hus j hj).2)⟩

/-- the writes' cells, column by column -/
theorem Sents.cols {E : Nat → Prop} {w : World} {us : List Value} {l : List Snt} (h : Sents E w us l) : ∃ (S : Nat → Int) (A : Nat → Option Addr) (N C : Nat → Nat), ∀ j (hj : j < l.length),
    us[j * 2]? = some (.int .i64 (S j)) ∧ us[j * 2 + 1]? = some (.slice (A j) (N j) (C j)) ∧ S j = (l[j]).1 ∧ N j = (l[j]).2.length ∧ Row E w (A j) (bvs (l[j]).2) := by
  have : ∀ j, ∃ q : Option Addr × Nat, ∀ (hj : j < l.length), us[j * 2]? = some (.int .i64 (l[j]).1) ∧ us[j * 2 + 1]? = some (.slice q.1 (l[j]).2.length q.2) ∧ Row E w q.1 (bvs (l[j]).2) := by
    intro j
    by_cases hj : j < l.length
    · obtain ⟨h1, v, h2, a, c, rfl, h3, _⟩ := h.get hj
      exact ⟨(a, c), fun _ => ⟨h1, h2, h3⟩⟩
    · exact ⟨(none, 0), fun h => absurd h hj⟩
  obtain ⟨f, hf⟩ := Classical.axiomOfChoice this
  refine ⟨fun j => ((l[j]?.map (·.1)).getD 0 : Nat), fun j => (f j).1, fun j => (l[j]?.map (·.2.length)).getD 0, fun j => (f j).2, fun j hj => ?_⟩
  obtain ⟨h1, h2, h3⟩ := hf j hj
  have e1 : l[j]? = some l[j] := List.getElem?_eq_getElem hj
  refine ⟨?_, ?_, ?_, ?_, h3⟩
  · rw [h1]; dsimp only; rw [e1]; rfl
  · rw [h2]; dsimp only; rw [e1]; rfl
  · dsimp only; rw [e1]; rfl
  · dsimp only; rw [e1]; rfl
end Go.Proofs.YtbaombnnagidcaaDoor

namespace Go.Proofs.YtbaombnnagidcaaDoor
open Go.RowKit Go.Shelf
attribute [local go_sem] Oper.semAt_some

/-- what is read: the last write of sector i, or what is durable there -/
def readOf (B : List (List UInt8)) (P : List Snt) (i : Nat) (hi : i < B.length) : List UInt8 := ((P.reverse.find? (fun p => p.1 == i)).map (·.2)).getD B[i]

/-- no write of the places in l goes to sector i -/
def Misses (P : List Snt) (i : Nat) (l : List (Fin P.length)) : Prop := ∀ j ∈ l, (P[j.1]).1 ≠ i

theorem readOf_miss {B : List (List UInt8)} {P : List Snt} {i : Nat} (hi : i < B.length) (h : ∀ j (hj : j < P.length), (P[j]).1 ≠ i) : readOf B P i hi = B[i] := by
  have : P.reverse.find? (fun p => p.1 == i) = none := by
    rw [List.find?_eq_none]
    intro p hp
    obtain ⟨j, hj, rfl⟩ := List.getElem_of_mem (List.mem_reverse.1 hp)
    simpa using h j hj
  simp [readOf, this]
theorem readOf_hit {B : List (List UInt8)} {P : List Snt} {i : Nat} (hi : i < B.length) {j0 : Nat} (h0 : j0 < P.length) (h : (P[j0]).1 = i) (hl : ∀ j (hj : j < P.length), j0 < j → (P[j]).1 ≠ i) : readOf B P i hi = (P[j0]).2 := by
  have hsplit : P = P.take j0 ++ P[j0] :: P.drop (j0 + 1) := by rw [← List.drop_eq_getElem_cons h0, List.take_append_drop]
  have hnone : (P.drop (j0 + 1)).reverse.find? (fun p => p.1 == i) = none := by
    rw [List.find?_eq_none]
    intro p hp
    obtain ⟨j, hj, rfl⟩ := List.getElem_of_mem (List.mem_reverse.1 hp)
    rw [List.getElem_drop]
    simp only [List.length_drop] at hj
    simpa using hl (j0 + 1 + j) (by omega) (by omega)
  have : P.reverse.find? (fun p => p.1 == i) = some P[j0] := by
    have e : P.reverse = (P.drop (j0 + 1)).reverse ++ (P[j0] :: (P.take j0).reverse) := by
      conv => lhs; rw [hsplit]
      simp
    rw [e, List.find?_append, hnone, List.find?_cons_of_pos (by simp [h])]
    rfl
  simp [readOf, this]
theorem backs_last {m k : Nat} (hk : k ≤ m) {pre : List (Fin m)} {j0 : Fin m} (h : backs m k = pre ++ [j0]) : ∀ j : Fin m, j0 < j → j ∈ pre := by
  match k, hk with
  | 0, _ => simp [backs] at h
  | k + 1, hk =>
    rw [backs_succ m k hk] at h
    obtain ⟨rfl, e⟩ := List.append_inj' h rfl
    injection e with e
    intro j hj
    rw [mem_backs (by omega)]
    rw [← e] at hj
    have : m - 1 - k < j.1 := hj
    omega

/-- a region that neither leaves nor panics -/
theorem wp_calm {P : Program} {c : Code} {Q : Exit → Act → World → Prop} {a : Act} {w : World} (h : c.wp P (Exit.then (Q .normal) (fun _ _ _ => False)) a w) : c.wp P Q a w :=
  wp_mono h (fun e a w h => by cases e <;> first | exact h | exact h.elim)

theorem own_from {F : Nat → Prop} {W W' : World} {t : TypeId} {sz : Nat} {a : Option Addr} {n c : Nat} {cs : List Value} {row : Option Nat} (h : Own F W t sz a n c cs) (hg : W.grownBy W' row) (hr : ∀ r, row = some r → ∃ o : Obj, W.heap[r]? = some o ∧ o.isCells = false) : Own F W' t sz a n c cs := by
  refine ⟨h.1, ?_⟩
  rcases h.2 with h | ⟨g, cur, h1, h2, h3, h4⟩
  · exact .inl h
  · refine .inr ⟨g, cur, h1, h2, (hg.block g (Array.getElem?_eq_some_iff.1 h3).1 (fun e => ?_)).trans h3, h4⟩
    obtain ⟨_, ho, hc⟩ := hr g e.symm
    rw [h3] at ho
    cases ho
    cases hc

theorem Upd.others {W W' : World} (h : Upd Nil W W') : KeepsOthers W W' := ⟨h.size, fun k _ hk _ => (h.block k (Array.getElem?_eq_some_iff.1 hk).1 (fun f => f)).trans hk⟩

set_option maxRecDepth 100000 in
set_option maxHeartbeats 2000000 in
theorem disk_Read_yes {F : Nat → Prop} (w : World) {s : Nat} {B : List (List UInt8)} {P : List Snt} (h : DiskRep F w s B P) (hfine : Fine B P) (hP : P.length ≤ 4000000000000) {i : Nat} (hi : i < B.length) :
    Calls Tryd.prog 71 #[.pointer (some ⟨s, 0, none⟩), .int .i64 i] w (ToldBytes w (readOf B P i hi)) := by
  obtain ⟨W0, hW0⟩ : ∃ W0, ((w.alloc (.cells #[.int .i64 i] 3)).alloc (.cells #[.slice none 0 0] 22)).alloc (.cells #[.int .i64 0] 30) = W0 := ⟨_, rfl⟩
  have hu : Upd Nil w W0 := by rw [← hW0]; exact (((Upd.refl Nil w).alloc _).alloc _).alloc _
  have H0 := Lib.hid (disk_look_yes W0 (h.upd hu (fun _ _ f => f)) hi)
  have HRep := Lib.hid h
  obtain ⟨R, Q, E, al, cl, vs, p, d, us, hFs, hR, hQ, hE, hb, hown, hq, hall, hsent⟩ := h
  have hs := hb.lt
  have hc1 : W0.cell? ⟨s, 1, none⟩ = some (.slice p P.length d) := (hb.upd hu (fun f => f)).cell 1
  have HU := Lib.hid hu
  have HQ := Lib.hid hq
  have HS := Lib.hid hsent
  have HQs := Lib.hid hQ
  have HEs := Lib.hid hE
  have HA := Lib.hid hall
  have HO := Lib.hid hown
  have HB := Lib.hid hb
  have b0 : Boxed W0 w.heap.size 3 (.int .i64 i) := by rw [← hW0]; exact ((Boxed.new w _ _).alloc _).alloc _
  have b1 : Boxed W0 (w.heap.size + 1) 22 (.slice none 0 0) := by rw [← hW0]; have := Boxed.new (w.alloc (.cells #[.int .i64 i] 3)) 22 (.slice none 0 0); rw [World.size_alloc] at this; exact this.alloc _
  have b2 : Boxed W0 (w.heap.size + 2) 30 (.int .i64 0) := by rw [← hW0]; have := Boxed.new ((w.alloc (.cells #[.int .i64 i] 3)).alloc (.cells #[.slice none 0 0] 22)) 30 (.int .i64 0); rw [World.size_alloc, World.size_alloc] at this; exact this
  have hsz : W0.heap.size = w.heap.size + 3 := by rw [← hW0]; simp
  have HZ := Lib.hid hsz
  have HF := Lib.hid hfine
  clear hu hR hQ hE hb hown hq hall hsent hsz hfine
  have c0 := b0.cell
  refine (callsIn_wide (n := 4)).1 ?_
  refine callsIn_of_wp_marks Tryd.func71 rfl trivial ?_ rfl
  simp only [Tryd.ntmps71, List.size_toArray, List.length_cons, List.length_nil, Nat.reduceAdd, Nat.reduceSub, Array.replicate_succ, Array.replicate_zero, List.push_toArray, List.append_toArray, List.nil_append, List.cons_append]
  refine wpIn_wide.2 ?_
  go_wp2_with (first
    | (go_at_call 99; refine H0.out.mono ?_; rintro e w' ⟨rfl, rfl⟩)
    | (go_at_call 100; refine (callsIn_wide.1 (backward_in Fence.wide 3 trivial rfl _ _ _ _)).mono ?_; rintro e w' ⟨rfl, rfl⟩))
  refine (wpIn_wide (n := 4)).1 ?_
  obtain ⟨W1, hW1⟩ : ∃ W1, W0.alloc (.cells #[.slice p P.length d] 74) = W1 := ⟨_, rfl⟩
  have hu1 : Upd Nil W0 W1 := by rw [← hW1]; exact (Upd.refl Nil W0).alloc _
  have hbx : W1.cell? ⟨W0.heap.size, 0, none⟩ = some (.slice p P.length d) := by rw [← hW1]; exact (Blk.new W0 74 #[.slice p P.length d]).cell 0
  have hz1 : W1.heap.size = w.heap.size + 4 := by rw [← hW1]; simp [HZ.out]
  rw [hW1]
  clear hW1
  have b0' : Boxed W1 w.heap.size 3 (.int .i64 i) := hu1.heap b0 (fun f => f)
  have b1' : Boxed W1 (w.heap.size + 1) 22 (.slice none 0 0) := hu1.heap b1 (fun f => f)
  have b2' : Boxed W1 (w.heap.size + 2) 30 (.int .i64 0) := hu1.heap b2 (fun f => f)
  obtain ⟨S, A, N, C, hcols⟩ := HS.out.cols
  have HC := Lib.hid hcols
  have huw : Upd Nil w W1 := HU.out.trans hu1 (fun _ f _ => f)
  have HUW := Lib.hid huw
  have hBw := Upd.below huw
  clear hcols huw
  refine wpIn_rangeFunc_ownH (α := Fin P.length) rfl (by omega) (gf := 120) (lb := #[.pointer (some ⟨W0.heap.size, 0, none⟩)]) rfl trivial (enters_of Tryd.func120 (by kernel_rfl) rfl)
    (backward_stops Fence.wide (4 - 1) trivial rfl (by omega) (n₀ := W1.heap.size) hP W1 (by have := HZ.out; omega) (Nat.le_refl _) hbx (HQ.out.keep HUW.out) (fun k hk => by have := (HQs.out k hk).2.2.2; omega) (fun j => .int .i64 (S j)) (fun j => .slice (A j) (N j) (C j)) (fun j hj => ⟨(HC.out j hj).1, (HC.out j hj).2.1⟩)) belowK_t (belowK_b (Nat.le_refl _)) (Below.refl _ _) (fun _ => rfl)
    (fun pre W => Misses P i pre ∧ Below W1.heap.size W1 W)
    (fun c pre W => c = .ret ∧ ∃ (j0 : Fin P.length) (pre0 : List (Fin P.length)) (a1 : Option Addr) (c1 : Nat), (pre = pre0 ++ [j0] ∧ Misses P i pre0 ∧ (P[j0.1]).1 = i) ∧ Boxed W (w.heap.size + 1) 22 (.slice a1 (P[j0.1]).2.length c1) ∧ Boxed W (w.heap.size + 2) 30 (.int .i64 0) ∧ Own (fun k => w.heap.size ≤ k) W 5 1 a1 (P[j0.1]).2.length c1 (bvs (P[j0.1]).2) ∧ Below w.heap.size w W)
    (OwnFrom.and (ownFrom_pure _ _) (ownFrom_below (Nat.le_refl _) (Nat.le_refl _)))
    (fun c pre X Y row hs hg hr => by
      obtain ⟨e, j0, pre0, a1, c1, h1, h2, h3, h4, h5⟩ := hs
      exact ⟨e, j0, pre0, a1, c1, h1, boxed_own _ _ (fun (_ : Unit) => Value.slice a1 (P[j0.1]).2.length c1) () X Y row h2 hg (fun r e => (hr r e).2), boxed_own _ _ (fun (_ : Unit) => Value.int .i64 0) () X Y row h3 hg (fun r e => (hr r e).2), own_from h4 hg (fun r e => (hr r e).2), ownFrom_below (β := Unit) (Nat.le_refl _) (by omega) () X Y row h5 hg hr⟩)
    ⟨(fun j hj => by cases hj), Below.refl _ _⟩
    (fun x a' W => ∃ Bx, W1.heap.size ≤ Bx ∧ Blk W Bx 145 #[.int .i64 (S x.1), .slice (A x.1) (N x.1) (C x.1)] ∧ a' = { tmps := #[.pointer (some ⟨s, 0, none⟩), .int .i64 i, undef, .pointer (some ⟨w.heap.size, 0, none⟩), .pointer (some ⟨w.heap.size + 1, 0, none⟩), .pointer (some ⟨w.heap.size + 1 + 1, 0, none⟩), .int .i64 0, undef, .pointer (some ⟨Bx, 0, none⟩), .pointer (some ⟨s, 0, none⟩), .int .i64 i, .int .i64 0, .int .i64 0, .bool false, undef, .pointer (some ⟨s, 0, none⟩), .pointer (some ⟨s, 0, none⟩), .pointer (some ⟨s, 1, none⟩), .slice p P.length d, .func (.func 120) #[] #[.pointer (some ⟨W0.heap.size, 0, none⟩)], .int .i64 (x.1 : Int), .agg #[.int .i64 (S x.1), .slice (A x.1) (N x.1) (C x.1)], undef, undef, undef, undef, undef, undef, undef, undef, undef, undef, undef, undef, undef, undef, undef, undef], defers := [] })
    (fun x a' _ X Y row hs hg hr => by
      obtain ⟨Bx, e1, e2, e3⟩ := hs
      refine ⟨Bx, e1, (hg.block Bx e2.lt (fun e => ?_)).trans e2, e3⟩
      obtain ⟨_, o, ho, hc⟩ := hr Bx e.symm
      rw [show X.heap[Bx]? = _ from e2] at ho
      cases ho
      cases hc)
    ?assign ?body ?done ?stop
  case assign =>
    rintro l pre x W K ⟨hM, hB1⟩ hK
    gi_wp2
    exact hK _ _ ((KeepsOthers.alloc _ _).from _) ((Below.refl _ W).alloc hB1.size _) ⟨hM, hB1.alloc hB1.size _⟩ ⟨W.heap.size, hB1.size, Blk.new W _ _, rfl⟩
  case body =>
    rintro l pre x a' W hl ⟨r, hr⟩ ⟨hM, hB1⟩ ⟨Bx, hBx, bX, rfl⟩ hlt
    obtain ⟨_, _, hS, hN, hrow⟩ := HC.out x.1 x.2
    rw [hS, hN] at bX
    rw [hS, hN]
    have cX0 : W.cell? ⟨Bx, 0, none⟩ = some (.int .i64 ((P[x.1]).1 : Int)) := bX.cell 0
    have cX1 : W.cell? ⟨Bx, 1, none⟩ = some (.slice (A x.1) (P[x.1]).2.length (C x.1)) := bX.cell 1
    have d0 : Boxed W w.heap.size 3 (.int .i64 i) := (hB1.block _ (by omega)).trans b0'
    have d1 : Boxed W (w.heap.size + 1) 22 (.slice none 0 0) := (hB1.block _ (by omega)).trans b1'
    have d2 : Boxed W (w.heap.size + 2) 30 (.int .i64 0) := (hB1.block _ (by omega)).trans b2'
    have g0 := d0.cell
    have g1 := d1.cell
    have f1 := d1.frozen
    have g2 := d2.cell
    have f2 := d2.frozen
    have hBW := hBw.trans (hB1.mono (by omega))
    have hrowW : Row E W (A x.1) (bvs (P[x.1]).2) := hrow.upd (Upd.ofBelow (G := Nil) hBW) (fun _ _ f => f)
    have HRW := Lib.hid hrowW
    have HBX := Lib.hid bX
    have HM := Lib.hid hM
    have hzW := hB1.size
    have hx128 : (P[x.1]).2.length ≤ 140737488355328 := by rw [(HF.out.sent _ (List.getElem_mem x.2)).2]; decide
    clear hrowW bX hM hrow hS hN
    by_cases hx : (P[x.1]).1 = i
    · have hq : (((P[x.1]).1 : Int) == (i : Int)) = true := by rw [hx]; simp
      have HX := Lib.hid hx
      clear hx
      gi_wp2_with (refine ⟨trivial, ?_⟩; gi_at_call 13; refine (CallsIn.inRound l (callsIn_wide.2 (bytesClone _ (C x.1) HRW.out hx128))).mono ?_; rintro e w1 ⟨a1, c1, rfl, hown1, hup1⟩
                   have g1' := hup1.cell g1 (fun f => f); have g2' := hup1.cell g2 (fun f => f)
                   have f1' := Boxed.frozen (hup1.heap d1 (fun f => f)); have f2' := Boxed.frozen (hup1.heap d2 (fun f => f))
                   have HO1 := Lib.hid hown1; have HU1 := Lib.hid hup1; clear hown1 hup1)
      have hsz1 := HU1.out.size
      have e1 : Boxed w1 (w.heap.size + 1) 22 (.slice none 0 0) := HU1.out.heap d1 (fun f => f)
      have e2 : Boxed w1 (w.heap.size + 2) 30 (.int .i64 0) := HU1.out.heap d2 (fun f => f)
      have hB2 : Below w.heap.size w w1 := hBW.trans (HU1.out.below.mono (by omega))
      refine ⟨((HU1.out.others.trans (KeepsOthers.setCell _ _ _)).trans (KeepsOthers.setCell _ _ _)).from _, rfl, x, pre, a1, c1, ⟨rfl, HM.out, HX.out⟩, (e1.set _).other (by omega) _, (e2.other (by omega) _).set _, ?_, (hB2.setCell (p := ⟨w.heap.size + 1, 0, none⟩) (by simp) _).setCell (p := ⟨w.heap.size + 2, 0, none⟩) (by simp) _⟩
      refine ((HO1.out.upd ((Upd.refl (One (w.heap.size + 1)) w1).setCell (p := ⟨w.heap.size + 1, 0, none⟩) (.inl rfl) _) ?_).upd ((Upd.refl (One (w.heap.size + 2)) _).setCell (p := ⟨w.heap.size + 2, 0, none⟩) (.inl rfl) _) ?_).mono (fun k hk => by have := hk.1; omega)
      · rintro k ⟨h1, _⟩ rfl
        omega
      · rintro k ⟨h1, _⟩ rfl
        omega
    · have hq : (((P[x.1]).1 : Int) == (i : Int)) = false := by rw [beq_eq_false_iff_ne]; omega
      have HX := Lib.hid hx
      clear hx
      gi_wp2
      refine ⟨KeepsFrom.refl _ _, Below.refl _ _, fun j hj => ?_, hB1⟩
      rcases List.mem_append.1 hj with hj | hj
      · exact HM.out j hj
      · obtain rfl : j = x := by simpa using hj
        exact HX.out
  case stop =>
    rintro D c pre W hD ⟨k, hk, hpre⟩ ⟨rfl, j0, pre0, a1, c1, ⟨rfl, hM, h0⟩, e1, e2, hO, hB2⟩ hK
    gi_wp2
    refine ⟨by simp, .inl ⟨_, _, rfl, run_takeDeferred hK, ?_⟩⟩
    have k1 := cell_kept e1.cell (grownBy_putObj' _ D (.deferred none)) (fun r e => by cases e; exact ⟨_, hK, rfl⟩)
    have k2 := cell_kept e2.cell (grownBy_putObj' _ D (.deferred none)) (fun r e => by cases e; exact ⟨_, hK, rfl⟩)
    have hO' := own_from hO (grownBy_putObj' W D (.deferred none)) (fun r e => by cases e; exact ⟨_, hK, rfl⟩)
    have hB3 : Below w.heap.size w (W.putObj D (.deferred none)) := hB2.trans (belowK_b (w := w) (Nat.le_refl _) W D _ _ (by omega) hK rfl rfl)
    refine ⟨_, results_cells2 rfl rfl rfl (by kernel_rfl) (by kernel_rfl) k1 k2, ?_⟩
    have hr : readOf B P i hi = (P[j0.1]).2 := readOf_hit hi j0.2 h0 (fun j hj hlt => hM ⟨j, hj⟩ (backs_last hk hpre.symm ⟨j, hj⟩ hlt))
    rw [hr]
    exact ⟨a1, c1, rfl, hO'.inHeap, Upd.ofBelow hB3⟩
  case done =>
    rintro D ys W hD rfl ⟨hM, hB1⟩ hK
    have hBW := hBw.trans (hB1.mono (by omega))
    have huW : Upd Nil w W := Upd.ofBelow hBW
    have d0 : Boxed W w.heap.size 3 (.int .i64 i) := (hB1.block _ (by omega)).trans b0'
    have d1 : Boxed W (w.heap.size + 1) 22 (.slice none 0 0) := (hB1.block _ (by omega)).trans b1'
    have d2 : Boxed W (w.heap.size + 2) 30 (.int .i64 0) := (hB1.block _ (by omega)).trans b2'
    have hrow := HO.out.keep huW
    obtain ⟨v, hv, ax, cx, rfl, rx, _⟩ := HA.out.get hi
    obtain ⟨g, rfl, hRg⟩ := hrow.isNone (by omega)
    obtain ⟨b, o, e, _, hcell⟩ := rowAt hrow.row hv
    obtain ⟨rfl, rfl⟩ : g = b ∧ 0 = o := by simpa using e
    rw [Nat.zero_add] at hcell
    have hcs : W.cell? ⟨s, 0, none⟩ = some (.slice (some ⟨g, 0, none⟩) B.length cl) := (HB.out.upd huW (fun f => f)).cell 0
    have g0 := d0.cell
    have g1 := d1.cell
    have f1 := d1.frozen
    have g2 := d2.cell
    have f2 := d2.frozen
    have hx128 : (B[i]).length ≤ 140737488355328 := by rw [HF.out.size _ (List.getElem_mem hi)]; decide
    have HRx := Lib.hid (rx.keep huW)
    have HUW2 := Lib.hid huW
    have HM := Lib.hid hM
    have HBW := Lib.hid hBW
    clear rx hrow hv e hM hBW huW
    go_wp2
    refine wp_calm ?_
    go_region_law (go_simp; go_at_call 13; refine (bytesClone _ cx HRx.out.drew hx128).mono ?_; rintro e w1 ⟨a1, c1, rfl, hown1, hup1⟩
                   have hup1 := hup1.ofDrew
                   have hown1 : Own (Fr W w1) w1 5 1 a1 (B[i]).length c1 (bvs B[i]) := hown1
                   have k0 := hup1.cell g0 (fun f => f); have k1 := hup1.cell g1 (fun f => f); have k2 := hup1.cell g2 (fun f => f)
                   have ks := hup1.cell hcs (fun f => f); have kg := hup1.cell hcell (fun f => f)
                   have l1 := Boxed.frozen (hup1.heap d1 (fun f => f)); have l2 := Boxed.frozen (hup1.heap d2 (fun f => f))
                   have HO1 := Lib.hid hown1; have HU1 := Lib.hid hup1; clear hown1 hup1)
    all_goals go_wp2
    all_goals
      have e1 : Boxed w1 (w.heap.size + 1) 22 (.slice none 0 0) := HU1.out.heap d1 (fun f => f)
      have e2 : Boxed w1 (w.heap.size + 2) 30 (.int .i64 0) := HU1.out.heap d2 (fun f => f)
      have hzW := hB1.size
      have hsz1 := HU1.out.size
      have hK1 : w1.heap[D]? = some (.deferred (some [])) := HU1.out.heap hK (fun f => f)
      have hK2 := ((KeepsOthers.setCell w1 ⟨w.heap.size + 1, 0, none⟩ (.slice a1 (B[i]).length c1)).trans (KeepsOthers.setCell _ ⟨w.heap.size + 1 + 1, 0, none⟩ (.int .i64 0))).same D _ hK1 rfl
      refine ⟨by simp, .inl ⟨_, _, rfl, run_takeDeferred hK2, ?_⟩⟩
      have q1 : Boxed ((w1.setCell ⟨w.heap.size + 1, 0, none⟩ (.slice a1 (B[i]).length c1)).setCell ⟨w.heap.size + 1 + 1, 0, none⟩ (.int .i64 0)) (w.heap.size + 1) 22 (.slice a1 (B[i]).length c1) := (e1.set _).other (by omega) _
      have q2 : Boxed ((w1.setCell ⟨w.heap.size + 1, 0, none⟩ (.slice a1 (B[i]).length c1)).setCell ⟨w.heap.size + 1 + 1, 0, none⟩ (.int .i64 0)) (w.heap.size + 1 + 1) 30 (.int .i64 0) := (e2.other (by omega) _).set _
      have hB2 : Below w.heap.size w w1 := HBW.out.trans (HU1.out.below.mono (by omega))
      have hB3 := (hB2.setCell (p := ⟨w.heap.size + 1, 0, none⟩) (by simp) (.slice a1 (B[i]).length c1)).setCell (p := ⟨w.heap.size + 1 + 1, 0, none⟩) (by simp; omega) (.int .i64 0)
      have hO : Own (fun k => w.heap.size ≤ k) ((w1.setCell ⟨w.heap.size + 1, 0, none⟩ (.slice a1 (B[i]).length c1)).setCell ⟨w.heap.size + 1 + 1, 0, none⟩ (.int .i64 0)) 5 1 a1 (B[i]).length c1 (bvs B[i]) := by
        refine ((HO1.out.upd ((Upd.refl (One (w.heap.size + 1)) w1).setCell (p := ⟨w.heap.size + 1, 0, none⟩) (.inl rfl) _) ?_).upd ((Upd.refl (One (w.heap.size + 1 + 1)) _).setCell (p := ⟨w.heap.size + 1 + 1, 0, none⟩) (.inl rfl) _) ?_).mono (fun k hk => by have := hk.1; omega)
        · rintro k ⟨h1, _⟩ rfl
          omega
        · rintro k ⟨h1, _⟩ rfl
          omega
      have r1 := cell_kept q1.cell (grownBy_putObj' _ D (.deferred none)) (fun r e => by cases e; exact ⟨_, hK2, rfl⟩)
      have r2 := cell_kept q2.cell (grownBy_putObj' _ D (.deferred none)) (fun r e => by cases e; exact ⟨_, hK2, rfl⟩)
      have hO' := own_from hO (grownBy_putObj' _ D (.deferred none)) (fun r e => by cases e; exact ⟨_, hK2, rfl⟩)
      have hB4 := hB3.trans (belowK_b (w := w) (Nat.le_refl _) _ D _ (.deferred none) (by omega) hK2 rfl rfl)
      refine ⟨_, results_cells2 rfl rfl rfl (by kernel_rfl) (by kernel_rfl) r1 r2, ?_⟩
      have hr : readOf B P i hi = B[i] := readOf_miss hi (fun j hj => HM.out ⟨j, hj⟩ (by rw [mem_backs (Nat.le_refl _)]; omega))
      rw [hr]
      exact ⟨a1, c1, rfl, hO'.inHeap, Upd.ofBelow hB4⟩

theorem disk_Read_no {F : Nat → Prop} (w : World) {s : Nat} {B : List (List UInt8)} {P : List Snt} (h : DiskRep F w s B P) (hB : 1 ≤ B.length) {i : Int} (hi : NoSector B i) :
    Calls Tryd.prog 71 #[.pointer (some ⟨s, 0, none⟩), .int .i64 i] w fun e w' => e = .returned (.tuple #[.slice none 0 0, .int .i64 1]) ∧ Upd Nil w w' := by
  obtain ⟨W0, hW0⟩ : ∃ W0, ((w.alloc (.cells #[.int .i64 i] 3)).alloc (.cells #[.slice none 0 0] 22)).alloc (.cells #[.int .i64 0] 30) = W0 := ⟨_, rfl⟩
  have hu : Upd Nil w W0 := by rw [← hW0]; exact (((Upd.refl Nil w).alloc _).alloc _).alloc _
  have H0 := Lib.hid (disk_look_no W0 (h.upd hu (fun _ _ f => f)) hB hi)
  have HU := Lib.hid hu
  have b0 : Blk W0 w.heap.size 3 #[.int .i64 i] := by rw [← hW0]; exact ((Blk.new w _ _).alloc _).alloc _
  have b1 : Blk W0 (w.heap.size + 1) 22 #[.slice none 0 0] := by rw [← hW0]; have := Blk.new (w.alloc (.cells #[.int .i64 i] 3)) 22 #[.slice none 0 0]; rw [World.size_alloc] at this; exact this.alloc _
  have b2 : Blk W0 (w.heap.size + 2) 30 #[.int .i64 0] := by rw [← hW0]; have := Blk.new ((w.alloc (.cells #[.int .i64 i] 3)).alloc (.cells #[.slice none 0 0] 22)) 30 #[.int .i64 0]; rw [World.size_alloc, World.size_alloc] at this; exact this
  have c0 : W0.cell? ⟨w.heap.size, 0, none⟩ = some (.int .i64 i) := b0.cell 0
  have c1 : W0.cell? ⟨w.heap.size + 1, 0, none⟩ = some (.slice none 0 0) := b1.cell 0
  have c2 : W0.cell? ⟨w.heap.size + 2, 0, none⟩ = some (.int .i64 0) := b2.cell 0
  have f1 := b1.frozen 0
  have f2 := b2.frozen 0
  clear b0 b1 b2 h hi
  go_enter Tryd.func71, Tryd.ntmps71
  go_wp2_with (go_at_call 99; refine H0.out.mono ?_; rintro e w' ⟨rfl, rfl⟩)
  refine bodyPost_ret (results_cells2 (u := .slice none 0 0) (v := .int .i64 1) rfl rfl rfl (by kernel_rfl) (by kernel_rfl) ?_ ?_) rfl ?_
  · simp [go_sem, c1]
  · simp [go_sem, c2]
  · exact ⟨rfl, (HU.out.setCell (p := ⟨w.heap.size + 1, 0, none⟩) (.inr (by simp)) _).setCell (p := ⟨w.heap.size + 2, 0, none⟩) (.inr (by simp)) _⟩
end Go.Proofs.YtbaombnnagidcaaDoor
