/- LogAnew: the walk. -/
import Derived.Test.YtbaombnnagidcaaDoorLogFill
namespace Go.Proofs.YtbaombnnagidcaaDoor.logAnew
open Go.RowKit diskOf

theorem reset_at {S : LogS} (hl : S.last < 4611686018427387904) : resetC S = 0 ∧ resetS S = { S with first := S.last + 1, forced := S.last, stream := [], durable := 0 } := ⟨if_neg (by omega), if_neg (by omega)⟩
/-- behind Reset the disk's log has no record -/
theorem reset_none {B : List (List UInt8)} {S : LogS} (h : Good B S) (hl : S.last < 4611686018427387904) : (splitL (openR (applyP B (resetN S)) 0 (applyP B (resetN S)).length).2.2).1 = [] := by
  rw [length_applyP, openR_reset h.fine h.fr h.sec hl, splitL_nil]
/-- behind Reset, Append and Force it has that one -/
theorem force_one {B : List (List UInt8)} {S : LogS} (h : Good B S) (hl : S.last < 4611686018427387904) {r : List UInt8} (h1 : 0 < r.length) (h2 : r.length ≤ 2000) (ha : appendS (resetS S) r = { resetS S with stream := (resetS S).stream ++ recL r, last := (resetS S).last + 1 }) :
    (splitL (openR (applyP (applyP B (resetN S)) (forceN (appendS (resetS S) r))) 0 (applyP (applyP B (resetN S)) (forceN (appendS (resetS S) r))).length).2.2).1 = [r] := by
  have hg := h.reset.append r
  have hst := h.reset.stale
  obtain ⟨_, e⟩ := reset_at hl
  rw [length_applyP, openR_force (r := r) hg.fine hg.fr hg.sec (by rw [ha, e]) (by rw [ha, e]; show S.last ≠ S.last + 1; omega) (by rw [ha, e]; rfl) (by
    have e1 : (appendS (resetS S) r).first - 1 = (resetS S).last := by rw [ha, e]; show S.last + 1 - 1 = S.last; omega
    rw [e1]
    exact hst), splitL_recL (by intro q; rw [q] at h1; exact absurd h1 (Nat.lt_irrefl 0)) h2]
theorem LD.log_ {tl td : TypeId} {g : Bool} {F : Nat → Prop} {w : World} {s d : Nat} {S : LogS} {B : List (List UInt8)} {P : List Snt} (h : LD tl td g F w s d S B P) : ∃ FL, LRep tl g FL w s d S := by
  obtain ⟨_, FL, _, _, _, hl, _⟩ := h
  exact ⟨FL, hl⟩
theorem LD.disk_ {tl td : TypeId} {g : Bool} {F : Nat → Prop} {w : World} {s d : Nat} {S : LogS} {B : List (List UInt8)} {P : List Snt} (h : LD tl td g F w s d S B P) : ∃ FD, DRep td FD w d B P := by
  obtain ⟨_, _, FD, _, _, _, hd⟩ := h
  exact ⟨FD, hd⟩
theorem law_records_LD {F : Nat → Prop} (w : World) {s d : Nat} {S : LogS} {B : List (List UInt8)} (h : LogLD F w s d S B []) (hB : Fine B []) (tab : Tab w) {l : List (List UInt8)} (hl : (splitL (openR B 0 B.length).2.2).1 = l) :
    Calls Tryd.prog 48 #[.pointer (some ⟨d, 0, none⟩)] w (GotRows w l) := by
  obtain ⟨FD, hd⟩ := LD.disk_ h
  have := law_records w hd hB tab
  rwa [hl] at this

theorem walk_no {F E : Nat → Prop} (w : World) {A : Option Addr} {c0 : Nat} {vs : List Value} {B : List (List UInt8)} (hrow : Row F w A vs) (hall : All2 (Elem E w) vs B) (hl : B.length * 24 ≤ 140737488355328) (hx : ∀ x ∈ B, x.length ≤ 140737488355328) (hs : ¬ Sound B) (a : Option Addr) (n c : Nat) (ra : Option Addr) (rn rc : Nat) :
    Calls Tryd.prog 11 #[.slice A B.length c0, .slice a n c, .slice ra rn rc] w fun e w' => e = .returned (.bool true) ∧ Upd Nil w w' := by
  have H := Lib.hid (fill_no (c0 := c0) w hrow hall hl hx hs a n c)
  clear hrow hall hl hx hs
  go_enter Tryd.func11, Tryd.ntmps11
  go_wp2_with (go_at_call 47; refine H.out.mono ?_; rintro e w1 ⟨rfl, g⟩; have HU := Lib.hid g; clear g)
  go_ret
  exact ⟨rfl, HU.out⟩

set_option maxRecDepth 100000 in
set_option maxHeartbeats 16000000 in
theorem walk_yes {F E : Nat → Prop} (w : World) {A : Option Addr} {c0 : Nat} {vs : List Value} {B0 : List (List UInt8)} (hrow : Row F w A vs) (hall : All2 (Elem E w) vs B0) (hs : Sound B0) {a : Option Addr} {n : Nat} (c : Nat) {d : Nat → Do3} (hc : Calls03 w a n d) (hn : n ≤ 4398046511104)
    {ra : Option Addr} (rc : Nat) {r : List UInt8} (hr : Row (Old w) w ra (bvs r)) (hx : r.length ≤ 140737488355328) (tab : Tab w) :
    Calls Tryd.prog 11 #[.slice A B0.length c0, .slice a n c, .slice ra r.length rc] w fun e w' => e = .returned (.bool true) ∧ Upd Nil w w' := by
  have H := Lib.hid (fill_yes (c0 := c0) w hrow hall hs c hc hn tab)
  have HT := Lib.hid tab
  have HR := Lib.hid hr
  have HX := Lib.hid hx
  have hln : r.length ≤ 9223372036854775807 := by omega
  clear hrow hall hs hc tab hr hx
  go_enter Tryd.func11, Tryd.ntmps11
  go_upto_region 4 with (go_at_call 47; refine H.out.mono ?_; rintro e w1 ⟨x, d, a1, m1, c1, z1, F1, S, B, rfl, g1, g2, g3, g4⟩; have HL := Lib.hid g1; have HG := Lib.hid g2; have HF1 := Lib.hid g3; have HU1 := Lib.hid g4; clear g1 g2 g3 g4)
  obtain ⟨FL, hrep⟩ := LD.log_ HL.out
  have hO1 : ∀ k, Old w k → ¬ F1 k := fun k hk f => by have h1 : k < w.heap.size := hk; have := (HF1.out k f).1; omega
  have h01 : ¬ F1 0 := HL.out.1
  have HO1 := Lib.hid hO1
  have H01 := Lib.hid h01
  have HT1 := Lib.hid (HT.out.upd HU1.out (fun f => f))
  have HR1 := Lib.hid (HR.out.keep HU1.out)
  have HRep := Lib.hid hrep
  have tokA : True := trivial
  clear hrep hO1 h01 H
  by_cases hq : 4611686018427387904 ≤ S.last
  · have hd : decide ((4611686018427387904 : Int) ≤ (S.last : Int)) = true := by rw [decide_eq_true_eq]; omega
    have HRc : Hid (resetC S = 4) := Lib.hid (if_pos hq)
    clear hq
    go_wp2_with (first
      | (go_at_call 42; clear tokA; refine (log_Last w1 HRep.out).mono ?_; rintro e w' ⟨rfl, rfl⟩)
      | (go_at_call 44; refine (log_Reset w1 HL.out HG.out.fine HG.out.disk HG.out.all HT1.out).mono ?_; intro e w2 hg; rw [HRc.out] at hg; obtain ⟨rfl, F2, g1, g2, g3⟩ := hg; have HV2 := Lib.hid g2; clear g1 g2 g3))
    go_ret
    exact ⟨rfl, HU1.out.past HV2.out (fun k hk => (HF1.out k hk).1)⟩
  · have hd : decide ((4611686018427387904 : Int) ≤ (S.last : Int)) = false := by rw [decide_eq_false_iff_not]; omega
    have hq2 : S.last < 4611686018427387904 := by omega
    obtain ⟨hrc, hrs⟩ := reset_at hq2
    have HRc := Lib.hid hrc
    have hnone := reset_none HG.out hq2
    have hone := fun h1 h2 => force_one HG.out hq2 (r := r) h1 h2
    have hgr := HG.out.reset
    obtain ⟨S1, hS1⟩ : ∃ q, resetS S = q := ⟨_, rfl⟩
    obtain ⟨B1, hB1⟩ : ∃ q, applyP B (resetN S) = q := ⟨_, rfl⟩
    rw [hS1] at hrs hone hgr
    rw [hB1] at hnone hone hgr
    have e1 : S1.first = S.last + 1 := by rw [hrs]
    have e2 : S1.last = S.last := by rw [hrs]
    have e3 : S1.forced = S.last := by rw [hrs]
    have e4 : S1.stream = [] := by rw [hrs]
    have HE := Lib.hid (And.intro e1 (And.intro e2 (And.intro e3 e4)))
    have HS1 := Lib.hid (And.intro hS1 hB1)
    have HNone := Lib.hid hnone
    have HOne := Lib.hid hone
    have HG1 := Lib.hid hgr
    have HQ2 := Lib.hid hq2
    obtain ⟨L1, hL1⟩ : ∃ q, S.last + 1 = q := ⟨_, rfl⟩
    have s1 : IntKind.i64.wrap ((S.last : Int) + 1) = (L1 : Int) := by rw [IntWalk.i64_in _ (by omega)]; omega
    have s2 : wrap64 ((S.last : Int) + 1) = (L1 : Int) := by unfold wrap64; omega
    have HL1 := Lib.hid hL1
    obtain ⟨rm, hrm⟩ : ∃ q, S1.sectors * 112 - 0 = q := ⟨_, rfl⟩
    have HRm := Lib.hid hrm
    have hsec : S1.sectors ≤ 4096 := by have := hgr.fine.le; omega
    have HSec := Lib.hid hsec
    have hrm2 : rm ≤ 1000000 := by omega
    clear hq hq2 hrc hrs hS1 hB1 e1 e2 e3 e4 hnone hone hgr hL1 hrm hsec
    go_upto_region 9 with (first
      | (go_at_call 42; clear tokA; refine (log_Last w1 HRep.out).mono ?_; rintro e w' ⟨rfl, rfl⟩)
      | (go_at_call 44; refine (log_Reset w1 HL.out HG.out.fine HG.out.disk HG.out.all HT1.out).mono ?_; intro e w2 hg; rw [HRc.out, HS1.out.1, HS1.out.2] at hg; obtain ⟨rfl, F2, g1, g2, g3⟩ := hg; have HL2 := Lib.hid g1; have HV2 := Lib.hid g2; have HF2 := Lib.hid g3; have HT2 := Lib.hid (HT1.out.upd g2 H01.out); have HR2 := Lib.hid (HR1.out.upd g2 HO1.out); obtain ⟨FL2, hl2⟩ := LD.log_ g1; have HRep2 := Lib.hid hl2; clear g1 g2 g3 hl2)
      | (go_at_call 45; refine (log_First w2 HRep2.out).mono ?_; intro e w' hg; rw [HE.out.1, HL1.out] at hg; obtain ⟨rfl, rfl⟩ := hg)
      | (go_at_call 42; refine (log_Last w2 HRep2.out).mono ?_; intro e w' hg; rw [HE.out.2.1] at hg; obtain ⟨rfl, rfl⟩ := hg)
      | (go_at_call 46; refine (log_Forced w2 HRep2.out).mono ?_; intro e w' hg; rw [HE.out.2.2.1] at hg; obtain ⟨rfl, rfl⟩ := hg)
      | (go_at_call 48; refine (law_records_LD w2 HL2.out HG1.out.disk HT2.out HNone.out).mono ?_; rintro e w3 ⟨R3, E3, a3, c3, v3, rfl, g1, g2, g3, g4⟩; have HU3 := Lib.hid g4; clear g1 g2 g3 g4))
    have HL3 := Lib.hid (HL2.out.keep HU3.out)
    have HR3 := Lib.hid (HR2.out.keep HU3.out)
    have HT3 := Lib.hid (HT2.out.upd HU3.out (fun f => f))
    have hUw : Upd Nil w w3 := (HU1.out.past HV2.out (fun k hk => (HF1.out k hk).1)).trans HU3.out (fun _ f _ => f)
    have HUw := Lib.hid hUw
    have hF2 : ∀ k, F2 k → w.heap.size ≤ k := fun k hk => by
      have z := HU1.out.size
      rcases HF2.out k hk with q | q
      · exact (HF1.out k q).1
      · have := q.1; omega
    have HF2w := Lib.hid hF2
    clear hUw hF2
    have hcases : (0 < r.length ∧ r.length ≤ 2000 ∧ recN r.length ≤ rm) ∨ r.length = 0 ∨ 2000 < r.length ∨ (0 < r.length ∧ r.length ≤ 2000 ∧ rm < recN r.length) := by omega
    have hrn : recN r.length ≤ r.length + 2 := by unfold recN; split <;> omega
    rcases hcases with ⟨hq1, hq2, hq3⟩ | hq1 | hq1 | ⟨hq1, hq2, hq3⟩
    · have HAp := Lib.hid (append_may (S := S1) (r := r) (by rw [HE.out.2.1]; exact HQ2.out) hq1 hq2 (by rw [HE.out.2.2.2, List.length_nil, HRm.out]; exact hq3))
      have hone := HOne.out hq1 hq2 (by have := HAp.out.2.2; exact this)
      have hg2 := HG1.out.append r
      obtain ⟨S2, hS2⟩ : ∃ q, appendS S1 r = q := ⟨_, rfl⟩
      rw [hS2] at hone hg2
      obtain ⟨B2, hB2⟩ : ∃ q, applyP B1 (forceN S2) = q := ⟨_, rfl⟩
      rw [hB2] at hone
      have hg3 := hg2.force
      rw [hB2] at hg3
      have HS2 := Lib.hid hS2
      have HB2 := Lib.hid hB2
      have HG2 := Lib.hid hg2
      have HG3 := Lib.hid hg3
      have HOne2 := Lib.hid hone
      have HNn : Hid (appendN S1 r = L1) := Lib.hid (by rw [HAp.out.2.1, HE.out.2.1, HL1.out])
      clear hS2 hB2 hg2 hg3 hone hrn hq3 hq1 hq2
      go_wp2_with (first
        | (go_at_call 41; refine (log_Append_LD w3 HL3.out HG1.out.fine rc HR3.out HX.out).mono ?_; intro e w4 hg; rw [HAp.out.1, HNn.out, HS2.out] at hg; obtain ⟨rfl, F4, g1, g2, g3⟩ := hg; have HL4 := Lib.hid g1; have HV4 := Lib.hid g2; have HF4 := Lib.hid g3; have HT4 := Lib.hid (HT3.out.upd g2 HL3.out.1); have HR4 := Lib.hid (HR3.out.upd g2 (fun k hk f => by have h1 : k < w.heap.size := hk; have := HF2w.out k f; omega)); clear g1 g2 g3)
        | (go_at_call 43; refine (log_Force w4 HL4.out HG2.out.fine HG2.out.disk HG2.out.all HT4.out).mono ?_; intro e w5 hg; rw [HB2.out] at hg; obtain ⟨rfl, F5, g1, g2, g3⟩ := hg; have HL5 := Lib.hid g1; have HV5 := Lib.hid g2; have HT5 := Lib.hid (HT4.out.upd g2 HL4.out.1); have z3 := HUw.out.size; have HF4w : Hid (∀ k, F4 k → w.heap.size ≤ k) := Lib.hid (fun k hk => by rcases HF4.out k hk with q | q; exact HF2w.out k q; (have := q.1; omega)); have HR5 := Lib.hid (HR4.out.upd g2 (fun k hk f => by have h1 : k < w.heap.size := hk; have := HF4w.out k f; omega)); clear g1 g2 g3 z3)
        | (go_at_call 48; refine (law_records_LD w5 HL5.out HG3.out.disk HT5.out HOne2.out).mono ?_; rintro e w6 ⟨R6, E6, a6, c6, v6, rfl, g1, g2, g3, g4⟩; have HU6 := Lib.hid g4; obtain ⟨v, hv, a7, c7, rfl, r7, _⟩ := g1.all.get (i := 0) (Nat.zero_lt_succ _); obtain ⟨b, o, rfl, _, hcell⟩ := rowAt g1.own.row hv; have hcell0 : w6.cell? ⟨b, o, none⟩ = some (.slice a7 r.length c7) := hcell; have HR7 : Hid (Row E6 w6 a7 (bvs r)) := Lib.hid r7; clear hcell; have HR6 := Lib.hid (HR5.out.keep g4); clear g1 g2 g3 g4 hv r7)
        | (go_at_call 16; refine (bytesEqual_at w6 c7 rc HR7.out HR6.out rfl rfl).mono ?_; intro e w' hg; rw [show decide (r = r) = true from decide_eq_true rfl] at hg; obtain ⟨rfl, rfl⟩ := hg))
      go_ret
      exact ⟨rfl, (((HUw.out.past HV4.out HF2w.out).past HV5.out HF4w.out)).trans HU6.out (fun _ f _ => f)⟩
    · have HAp := Lib.hid (append_not (S := S1) (r := r) (by exact .inl hq1))
      obtain ⟨ac, hac⟩ : ∃ q, appendC S1 r = q := ⟨_, rfl⟩
      have HAc := Lib.hid hac
      have hac1 : (ac == 0) = false := by rw [beq_eq_false_iff_ne, ← hac]; exact HAp.out.1
      clear hac hrn
      have hr0 : r = [] := List.eq_nil_of_length_eq_zero hq1
      subst hr0
      clear hq1 hln
      go_wp2_with (first
        | (go_at_call 41; refine (log_Append_LD w3 HL3.out HG1.out.fine rc HR3.out HX.out).mono ?_; intro e w4 hg; rw [HAc.out, HAp.out.2.1, HAp.out.2.2] at hg; obtain ⟨rfl, F4, g1, g2, g3⟩ := hg; have HV4 := Lib.hid g2; obtain ⟨FL4, hl4⟩ := LD.log_ g1; have HRep4 := Lib.hid hl4; clear g1 g2 g3 hl4)
        | (go_at_call 40; refine (log_Room w4 HRep4.out HSec.out HG1.out.fine.stream).mono ?_; intro e w5 hg; rw [HE.out.2.2.2, List.length_nil, HRm.out] at hg; obtain ⟨rfl, g⟩ := hg; have HU5 := Lib.hid g; clear g))
      go_ret
      exact ⟨rfl, HUw.out.past HV4.out HF2w.out⟩
    · have HAp := Lib.hid (append_not (S := S1) (r := r) (by exact .inr (.inl hq1)))
      have hl0 : ((r.length : Int) == 0) = false := by rw [beq_eq_false_iff_ne]; omega
      obtain ⟨ac, hac⟩ : ∃ q, appendC S1 r = q := ⟨_, rfl⟩
      have HAc := Lib.hid hac
      have hac1 : (ac == 0) = false := by rw [beq_eq_false_iff_ne, ← hac]; exact HAp.out.1
      clear hac hrn
      go_wp2_with (first
        | (go_at_call 41; refine (log_Append_LD w3 HL3.out HG1.out.fine rc HR3.out HX.out).mono ?_; intro e w4 hg; rw [HAc.out, HAp.out.2.1, HAp.out.2.2] at hg; obtain ⟨rfl, F4, g1, g2, g3⟩ := hg; have HV4 := Lib.hid g2; obtain ⟨FL4, hl4⟩ := LD.log_ g1; have HRep4 := Lib.hid hl4; clear g1 g2 g3 hl4)
        | (go_at_call 40; refine (log_Room w4 HRep4.out HSec.out HG1.out.fine.stream).mono ?_; intro e w5 hg; rw [HE.out.2.2.2, List.length_nil, HRm.out] at hg; obtain ⟨rfl, g⟩ := hg; have HU5 := Lib.hid g; clear g))
      go_ret
      exact ⟨rfl, HUw.out.past HV4.out HF2w.out⟩
    · have HAp := Lib.hid (append_not (S := S1) (r := r) (by exact .inr (.inr ⟨hq2, by rw [HE.out.2.2.2, List.length_nil, HRm.out]; exact hq3⟩)))
      have hl0 : ((r.length : Int) == 0) = false := by rw [beq_eq_false_iff_ne]; omega
      have hq4 : (rm : Int) < (r.length : Int) + 2 := by omega
      obtain ⟨ac, hac⟩ : ∃ q, appendC S1 r = q := ⟨_, rfl⟩
      have HAc := Lib.hid hac
      have hac1 : (ac == 0) = false := by rw [beq_eq_false_iff_ne, ← hac]; exact HAp.out.1
      clear hac hrn
      go_wp2_with (first
        | (go_at_call 41; refine (log_Append_LD w3 HL3.out HG1.out.fine rc HR3.out HX.out).mono ?_; intro e w4 hg; rw [HAc.out, HAp.out.2.1, HAp.out.2.2] at hg; obtain ⟨rfl, F4, g1, g2, g3⟩ := hg; have HV4 := Lib.hid g2; obtain ⟨FL4, hl4⟩ := LD.log_ g1; have HRep4 := Lib.hid hl4; clear g1 g2 g3 hl4)
        | (go_at_call 40; refine (log_Room w4 HRep4.out HSec.out HG1.out.fine.stream).mono ?_; intro e w5 hg; rw [HE.out.2.2.2, List.length_nil, HRm.out] at hg; obtain ⟨rfl, g⟩ := hg; have HU5 := Lib.hid g; clear g))
      go_ret
      exact ⟨rfl, (HUw.out.past HV4.out HF2w.out).trans HU5.out (fun _ f _ => f)⟩
end Go.Proofs.YtbaombnnagidcaaDoor.logAnew
