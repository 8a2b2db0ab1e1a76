/- LogRoom: the walk. -/
import Derived.Test.YtbaombnnagidcaaDoorLogRoom
namespace Go.Proofs.YtbaombnnagidcaaDoor.logRoom
open Go.RowKit

theorem u64_nonneg' (i : Int) : 0 ≤ IntKind.u64.wrap i := by
  simp only [IntKind.wrap_u64]
  omega
theorem mod_place (z : Int) {n : Nat} (h0 : 0 < n) (h1 : n ≤ 1000000) : ∃ m : Nat, m < n ∧ wrap64 ((IntKind.u64.wrap z).tmod (n : Int)) = (m : Int) := by
  have hz := u64_nonneg' z
  have e := Int.tmod_eq_emod_of_nonneg (b := (n : Int)) hz
  have h2 : 0 ≤ IntKind.u64.wrap z % (n : Int) := Int.emod_nonneg _ (by omega)
  have h3 : IntKind.u64.wrap z % (n : Int) < n := Int.emod_lt_of_pos _ (by omega)
  obtain ⟨r, hr⟩ : ∃ r, IntKind.u64.wrap z % (n : Int) = r := ⟨_, rfl⟩
  rw [hr] at h2 h3 e
  refine ⟨r.toNat, by omega, ?_⟩
  rw [e]
  unfold wrap64
  omega

set_option maxRecDepth 100000 in
set_option maxHeartbeats 8000000 in
theorem walk {F E : Nat → Prop} (w : World) (z : Int) {A : Option Addr} (c0 : Nat) {vs : List Value} {l : List (List UInt8)} (hrow : Row F w A vs) (hall : All2 (Elem E w) vs l) (hn : l.length ≤ 9223372036854775807) (hx : ∀ x ∈ l, x.length ≤ 140737488355328) (tab : Tab w) :
    Calls Tryd.prog 9 #[.int .i64 z, .slice A l.length c0] w fun e w' => e = .returned (.bool true) ∧ Upd Nil w w' := by
  have HRow := Lib.hid hrow
  have HAll := Lib.hid hall
  have HX := Lib.hid hx
  have HT := Lib.hid tab
  clear hrow hall hx tab
  obtain ⟨m0, hm0, hmz⟩ := mod_place z (n := 6) (by decide) (by decide)
  have hmz' : wrap64 ((IntKind.u64.wrap z).tmod 6) = (m0 : Int) := hmz
  obtain ⟨m, hm⟩ : ∃ m, 1 + m0 = m := ⟨_, rfl⟩
  have HM1 := Lib.hid (show (1 + (m0 : Int)) = (m : Int) by omega)
  have hm2 : 1 ≤ m ∧ m ≤ 6 := by omega
  have HM := Lib.hid hm2
  have HNew := Lib.hid (show Calls Tryd.prog 37 #[.int .i64 (m : Int)] w (GotDisk 76 w (List.replicate m noughts128)) from disk_New_yes w hm2.1 (by omega))
  clear hmz hm
  go_enter Tryd.func9, Tryd.ntmps9
  go_wp2_with (first
    | (rw [HM1.out]; go_at_call 37; refine HNew.out.mono ?_; rintro e w1 ⟨d, FD, rfl, g1, g2, g3⟩; have HD := Lib.hid g1; have HFD := Lib.hid g2; have HU1 := Lib.hid g3; have HSec := Lib.hid (disk_Sectors w1 g1); clear g1 g2 g3)
    | (go_at_call 39; refine HSec.out.mono ?_; rintro e w' ⟨rfl, rfl⟩; rw [List.length_replicate])
    | (go_at_call 38; refine (log_Open_yes w1 HD.out (fine_noughts HM.out.1 (by have := HM.out.2; omega)) (fun q => absurd (HFD.out 0 q).1 (by have := World.block_lt_of_cell? w _ (HT.out 0 (by decide)); exact Nat.not_le_of_lt this)) (fr := 0) (sectors := m) HM.out.1 (by rw [List.length_replicate]; omega) (HT.out.upd HU1.out (fun f => f))).mono ?_; intro e w2 hg; rw [openS_noughts m HM.out.1, openR_noughts m HM.out.1, openW_noughts m HM.out.1, splitL_nil] at hg; obtain ⟨lg, R2, E2, a2, c2, v2, rfl, F2, g1, g2, g3, _⟩ := hg; have HL := Lib.hid g1; have HU2 := Lib.hid g2; have HF2 := Lib.hid g3; clear g1 g2 g3))
  -- LOOP
  go_loopg [39] l.length (fun k iv wr => ∃ j : Nat, j + k = l.length ∧ iv = .int .i64 (j : Int) ∧ ∃ (S : LogS) (F' : Nat → Prop), LogRep F' wr lg d S ∧ LFine S ∧ S.last ≤ S.stream.length ∧ S.sectors = m ∧ Upd Nil w wr ∧ ∀ k, F' k → w.heap.size ≤ k)
  case atStart =>
    obtain ⟨q0, FL, FDx, qL, qD, ql, qd⟩ := HL.out
    have z1 := HU1.out.size
    refine ⟨0, Nat.zero_add _, rfl, _, FL, ql, ⟨HM.out.1, by show 0 + m ≤ 4096; have := HM.out.2; omega, Nat.zero_le _, Nat.le_refl _, Nat.le_refl _, (by show (1 : Nat) ≤ 4611686018427387904; omega), Nat.zero_le _, Nat.le_refl _, Nat.le_refl _, fun h => absurd rfl h⟩, Nat.le_refl _, rfl, HU1.out.trans HU2.out (fun k hk hlt => absurd (HFD.out k hk).1 (Nat.not_le_of_lt hlt)), fun k hk => ?_⟩
    rcases HF2.out k (qL k hk).1 with q | q
    · exact (HFD.out k q).1
    · exact Nat.le_trans z1 q.1
  case round =>
    obtain ⟨j, hjk, rfl, S, F', hl, hf, hla, hsec, hup, hF'⟩ := hrel
    have hj : j ≤ l.length := by omega
    have HJ := Lib.hid hjk
    have HLg := Lib.hid hl
    have HFi := Lib.hid hf
    have HLa := Lib.hid hla
    have HSe := Lib.hid hsec
    have HUp := Lib.hid hup
    have HF' := Lib.hid hF'
    have hst := hf.stream
    obtain ⟨rm, hrm⟩ : ∃ n, S.sectors * 112 - S.stream.length = n := ⟨_, rfl⟩
    have hRm := log_Room wr hl (by omega) hst
    rw [hrm] at hRm
    have HRm := Lib.hid hRm
    have HRmE := Lib.hid hrm
    have hrm2 : rm ≤ 1000 := by omega
    clear hl hf hla hup hF' hRm
    by_cases hlt : j < l.length
    · obtain ⟨v, hv, hel⟩ := HAll.out.get hlt
      obtain ⟨ax, cx, rfl, rx, hax, _⟩ := id hel
      obtain ⟨b, o, rfl, _, hc0⟩ := rowAt HRow.out hv
      have hc := HUp.out.cell hc0 (fun f => f)
      have hxl := HX.out _ (List.getElem_mem hlt)
      have HXr := Lib.hid (rx.keep HUp.out)
      obtain ⟨r, hr⟩ : ∃ r, l[j] = r := ⟨_, rfl⟩
      rw [hr] at hc HXr hxl
      have hlast : S.last ≤ 1000 := by have := HLa.out; omega
      have HLast := Lib.hid hlast
      have hln : r.length < 9223372036854775807 := by omega
      have tokA : True := trivial
      clear hv hel rx hax hc0 hr hst hsec hrm
      have hcases : (0 < r.length ∧ r.length ≤ 127 ∧ r.length + 1 ≤ rm) ∨ (127 < r.length ∧ r.length ≤ 2000 ∧ r.length + 2 ≤ rm) ∨ r.length = 0 ∨ 2000 < r.length ∨ (0 < r.length ∧ r.length ≤ 127 ∧ rm < r.length + 1) ∨ (127 < r.length ∧ r.length ≤ 2000 ∧ rm < r.length + 2) := by omega
      rcases hcases with hq | hq | hq | hq | hq | hq
      · have hN : recN r.length = r.length + 1 := by unfold recN; split <;> omega
        have HApp := Lib.hid (append_may (S := S) (r := r) (by omega) (by omega) (by omega) (by have := HRmE.out; omega))
        have HSz := Lib.hid (show S.sectors ≤ 4096 ∧ (S.stream ++ recL r).length ≤ S.sectors * 112 by rw [List.length_append, length_recL_at (by omega)]; have := HRmE.out; have := HFi.out.le; unfold recN at hN; omega)
        have HRmN := Lib.hid (show S.sectors * 112 - (S.stream ++ recL r).length = rm - (r.length + 1) by rw [List.length_append, length_recL_at (by omega)]; have := HRmE.out; unfold recN at hN; omega)
        obtain ⟨rm2, hrm2e⟩ : ∃ q, rm - (r.length + 1) = q := ⟨_, rfl⟩
        rw [hrm2e] at HRmN
        have hrm3 : (rm : Int) - ((r.length : Int) + 1) = (rm2 : Int) := by omega
        go_wp2_with (first
          | (go_at_call 40; clear tokA; refine HRm.out.mono ?_; rintro e w3 ⟨rfl, g1⟩; have HV3 := Lib.hid g1; clear g1)
          | (go_at_call 41; refine (log_Append w3 (HLg.out.keep HV3.out) HFi.out cx (HXr.out.keep HV3.out) hxl).mono ?_; intro e w4 hg; rw [HApp.out.2.1, HApp.out.2.2] at hg; obtain ⟨rfl, F4, g1, g2, g3⟩ := hg; have HL4 := Lib.hid g1; have HV4 := Lib.hid g2; have HF4 := Lib.hid g3; rw [HApp.out.1]; clear g1 g2 g3)
          | (go_at_call 40; refine (log_Room w4 HL4.out HSz.out.1 HSz.out.2).mono ?_; rintro e w5 ⟨rfl, g1⟩; have HV5 := Lib.hid g1; rw [HRmN.out]; clear g1)
          | (go_at_call 42; refine (log_Last w5 (HL4.out.keep HV5.out)).mono ?_; rintro e w6 ⟨rfl, rfl⟩))
        go_roundg (gk - 1)
        case measure => have := HJ.out; omega
        case rel =>
          have hj := HJ.out
          have z3 := HV3.out.size
          have z0 := HUp.out.size
          have hfi := HFi.out.append r
          rw [HApp.out.2.2] at hfi
          refine ⟨j + 1, by omega, by go_num, { S with stream := S.stream ++ recL r, last := S.last + 1 }, F4, HL4.out.keep HV5.out, hfi, ?_, HSe.out, ((HUp.out.trans HV3.out (fun _ f _ => f.elim)).trans HV4.out (fun k hk hlt => absurd (HF'.out k hk) (Nat.not_le_of_lt hlt))).trans HV5.out (fun _ f _ => f), fun k hk => ?_⟩
          · show S.last + 1 ≤ (S.stream ++ recL r).length
            rw [List.length_append, length_recL_at (by omega)]
            have := HLa.out
            split <;> omega
          · rcases HF4.out k hk with q | q
            · exact HF'.out k q
            · exact Nat.le_trans (Nat.le_trans z0 z3) q.1
      · have hN : recN r.length = r.length + 2 := by unfold recN; split <;> omega
        have HApp := Lib.hid (append_may (S := S) (r := r) (by omega) (by omega) (by omega) (by have := HRmE.out; omega))
        have HSz := Lib.hid (show S.sectors ≤ 4096 ∧ (S.stream ++ recL r).length ≤ S.sectors * 112 by rw [List.length_append, length_recL_at (by omega)]; have := HRmE.out; have := HFi.out.le; unfold recN at hN; omega)
        have HRmN := Lib.hid (show S.sectors * 112 - (S.stream ++ recL r).length = rm - (r.length + 2) by rw [List.length_append, length_recL_at (by omega)]; have := HRmE.out; unfold recN at hN; omega)
        obtain ⟨rm2, hrm2e⟩ : ∃ q, rm - (r.length + 2) = q := ⟨_, rfl⟩
        rw [hrm2e] at HRmN
        have hrm3 : (rm : Int) - ((r.length : Int) + 2) = (rm2 : Int) := by omega
        go_wp2_with (first
          | (go_at_call 40; clear tokA; refine HRm.out.mono ?_; rintro e w3 ⟨rfl, g1⟩; have HV3 := Lib.hid g1; clear g1)
          | (go_at_call 41; refine (log_Append w3 (HLg.out.keep HV3.out) HFi.out cx (HXr.out.keep HV3.out) hxl).mono ?_; intro e w4 hg; rw [HApp.out.2.1, HApp.out.2.2] at hg; obtain ⟨rfl, F4, g1, g2, g3⟩ := hg; have HL4 := Lib.hid g1; have HV4 := Lib.hid g2; have HF4 := Lib.hid g3; rw [HApp.out.1]; clear g1 g2 g3)
          | (go_at_call 40; refine (log_Room w4 HL4.out HSz.out.1 HSz.out.2).mono ?_; rintro e w5 ⟨rfl, g1⟩; have HV5 := Lib.hid g1; rw [HRmN.out]; clear g1)
          | (go_at_call 42; refine (log_Last w5 (HL4.out.keep HV5.out)).mono ?_; rintro e w6 ⟨rfl, rfl⟩))
        go_roundg (gk - 1)
        case measure => have := HJ.out; omega
        case rel =>
          have hj := HJ.out
          have z3 := HV3.out.size
          have z0 := HUp.out.size
          have hfi := HFi.out.append r
          rw [HApp.out.2.2] at hfi
          refine ⟨j + 1, by omega, by go_num, { S with stream := S.stream ++ recL r, last := S.last + 1 }, F4, HL4.out.keep HV5.out, hfi, ?_, HSe.out, ((HUp.out.trans HV3.out (fun _ f _ => f.elim)).trans HV4.out (fun k hk hlt => absurd (HF'.out k hk) (Nat.not_le_of_lt hlt))).trans HV5.out (fun _ f _ => f), fun k hk => ?_⟩
          · show S.last + 1 ≤ (S.stream ++ recL r).length
            rw [List.length_append, length_recL_at (by omega)]
            have := HLa.out
            split <;> omega
          · rcases HF4.out k hk with q | q
            · exact HF'.out k q
            · exact Nat.le_trans (Nat.le_trans z0 z3) q.1
      · have hr0 : r = [] := List.eq_nil_of_length_eq_zero hq
        subst hr0
        rw [List.length_nil] at hc
        clear hq hxl hln
        have HApp := Lib.hid (append_not (S := S) (r := []) (by exact .inl rfl))
        have HSz := Lib.hid (And.intro (show S.sectors ≤ 4096 by have := HFi.out.le; omega) HFi.out.stream)
        have HRmN := HRmE
        obtain ⟨ac, hac⟩ : ∃ q, appendC S [] = q := ⟨_, rfl⟩
        have HAc := Lib.hid hac
        have hac0 : ac ≠ 0 := by rw [← hac]; exact HApp.out.1
        have hac1 : (ac == 0) = false := by rw [beq_eq_false_iff_ne]; exact hac0
        clear hac
        go_wp2_with (first
          | (go_at_call 40; clear tokA; refine HRm.out.mono ?_; rintro e w3 ⟨rfl, g1⟩; have HV3 := Lib.hid g1; clear g1)
          | (go_at_call 41; refine (log_Append w3 (HLg.out.keep HV3.out) HFi.out cx (HXr.out.keep HV3.out) (Nat.zero_le _)).mono ?_; intro e w4 hg; rw [HApp.out.2.1, HApp.out.2.2] at hg; obtain ⟨rfl, F4, g1, g2, g3⟩ := hg; have HL4 := Lib.hid g1; have HV4 := Lib.hid g2; have HF4 := Lib.hid g3; rw [HAc.out]; clear g1 g2 g3)
          | (go_at_call 40; refine (log_Room w4 HL4.out HSz.out.1 HSz.out.2).mono ?_; rintro e w5 ⟨rfl, g1⟩; have HV5 := Lib.hid g1; rw [HRmN.out]; clear g1))
        go_roundg (gk - 1)
        case measure => have := HJ.out; omega
        case rel =>
          have hj := HJ.out
          have z3 := HV3.out.size
          have z0 := HUp.out.size
          have hfi := HFi.out.append []
          rw [HApp.out.2.2] at hfi
          refine ⟨j + 1, by omega, by go_num, S, F4, HL4.out.keep HV5.out, hfi, ?_, HSe.out, ((HUp.out.trans HV3.out (fun _ f _ => f.elim)).trans HV4.out (fun k hk hlt => absurd (HF'.out k hk) (Nat.not_le_of_lt hlt))).trans HV5.out (fun _ f _ => f), fun k hk => ?_⟩
          · exact HLa.out
          · rcases HF4.out k hk with q | q
            · exact HF'.out k q
            · exact Nat.le_trans (Nat.le_trans z0 z3) q.1
      · have HApp := Lib.hid (append_not (S := S) (r := r) (by have := HRmE.out; unfold recN; (first | omega | (split <;> omega))))
        have HSz := Lib.hid (And.intro (show S.sectors ≤ 4096 by have := HFi.out.le; omega) HFi.out.stream)
        have HRmN := HRmE
        obtain ⟨ac, hac⟩ : ∃ q, appendC S r = q := ⟨_, rfl⟩
        have HAc := Lib.hid hac
        have hac0 : ac ≠ 0 := by rw [← hac]; exact HApp.out.1
        have hac1 : (ac == 0) = false := by rw [beq_eq_false_iff_ne]; exact hac0
        clear hac
        go_wp2_with (first
          | (go_at_call 40; clear tokA; refine HRm.out.mono ?_; rintro e w3 ⟨rfl, g1⟩; have HV3 := Lib.hid g1; clear g1)
          | (go_at_call 41; refine (log_Append w3 (HLg.out.keep HV3.out) HFi.out cx (HXr.out.keep HV3.out) hxl).mono ?_; intro e w4 hg; rw [HApp.out.2.1, HApp.out.2.2] at hg; obtain ⟨rfl, F4, g1, g2, g3⟩ := hg; have HL4 := Lib.hid g1; have HV4 := Lib.hid g2; have HF4 := Lib.hid g3; rw [HAc.out]; clear g1 g2 g3)
          | (go_at_call 40; refine (log_Room w4 HL4.out HSz.out.1 HSz.out.2).mono ?_; rintro e w5 ⟨rfl, g1⟩; have HV5 := Lib.hid g1; rw [HRmN.out]; clear g1))
        go_roundg (gk - 1)
        case measure => have := HJ.out; omega
        case rel =>
          have hj := HJ.out
          have z3 := HV3.out.size
          have z0 := HUp.out.size
          have hfi := HFi.out.append r
          rw [HApp.out.2.2] at hfi
          refine ⟨j + 1, by omega, by go_num, S, F4, HL4.out.keep HV5.out, hfi, ?_, HSe.out, ((HUp.out.trans HV3.out (fun _ f _ => f.elim)).trans HV4.out (fun k hk hlt => absurd (HF'.out k hk) (Nat.not_le_of_lt hlt))).trans HV5.out (fun _ f _ => f), fun k hk => ?_⟩
          · exact HLa.out
          · rcases HF4.out k hk with q | q
            · exact HF'.out k q
            · exact Nat.le_trans (Nat.le_trans z0 z3) q.1
      · have HApp := Lib.hid (append_not (S := S) (r := r) (by have := HRmE.out; unfold recN; (first | omega | (split <;> omega))))
        have HSz := Lib.hid (And.intro (show S.sectors ≤ 4096 by have := HFi.out.le; omega) HFi.out.stream)
        have HRmN := HRmE
        obtain ⟨ac, hac⟩ : ∃ q, appendC S r = q := ⟨_, rfl⟩
        have HAc := Lib.hid hac
        have hac0 : ac ≠ 0 := by rw [← hac]; exact HApp.out.1
        have hac1 : (ac == 0) = false := by rw [beq_eq_false_iff_ne]; exact hac0
        clear hac
        go_wp2_with (first
          | (go_at_call 40; clear tokA; refine HRm.out.mono ?_; rintro e w3 ⟨rfl, g1⟩; have HV3 := Lib.hid g1; clear g1)
          | (go_at_call 41; refine (log_Append w3 (HLg.out.keep HV3.out) HFi.out cx (HXr.out.keep HV3.out) hxl).mono ?_; intro e w4 hg; rw [HApp.out.2.1, HApp.out.2.2] at hg; obtain ⟨rfl, F4, g1, g2, g3⟩ := hg; have HL4 := Lib.hid g1; have HV4 := Lib.hid g2; have HF4 := Lib.hid g3; rw [HAc.out]; clear g1 g2 g3)
          | (go_at_call 40; refine (log_Room w4 HL4.out HSz.out.1 HSz.out.2).mono ?_; rintro e w5 ⟨rfl, g1⟩; have HV5 := Lib.hid g1; rw [HRmN.out]; clear g1))
        go_roundg (gk - 1)
        case measure => have := HJ.out; omega
        case rel =>
          have hj := HJ.out
          have z3 := HV3.out.size
          have z0 := HUp.out.size
          have hfi := HFi.out.append r
          rw [HApp.out.2.2] at hfi
          refine ⟨j + 1, by omega, by go_num, S, F4, HL4.out.keep HV5.out, hfi, ?_, HSe.out, ((HUp.out.trans HV3.out (fun _ f _ => f.elim)).trans HV4.out (fun k hk hlt => absurd (HF'.out k hk) (Nat.not_le_of_lt hlt))).trans HV5.out (fun _ f _ => f), fun k hk => ?_⟩
          · exact HLa.out
          · rcases HF4.out k hk with q | q
            · exact HF'.out k q
            · exact Nat.le_trans (Nat.le_trans z0 z3) q.1
      · have HApp := Lib.hid (append_not (S := S) (r := r) (by have := HRmE.out; unfold recN; (first | omega | (split <;> omega))))
        have HSz := Lib.hid (And.intro (show S.sectors ≤ 4096 by have := HFi.out.le; omega) HFi.out.stream)
        have HRmN := HRmE
        obtain ⟨ac, hac⟩ : ∃ q, appendC S r = q := ⟨_, rfl⟩
        have HAc := Lib.hid hac
        have hac0 : ac ≠ 0 := by rw [← hac]; exact HApp.out.1
        have hac1 : (ac == 0) = false := by rw [beq_eq_false_iff_ne]; exact hac0
        clear hac
        go_wp2_with (first
          | (go_at_call 40; clear tokA; refine HRm.out.mono ?_; rintro e w3 ⟨rfl, g1⟩; have HV3 := Lib.hid g1; clear g1)
          | (go_at_call 41; refine (log_Append w3 (HLg.out.keep HV3.out) HFi.out cx (HXr.out.keep HV3.out) hxl).mono ?_; intro e w4 hg; rw [HApp.out.2.1, HApp.out.2.2] at hg; obtain ⟨rfl, F4, g1, g2, g3⟩ := hg; have HL4 := Lib.hid g1; have HV4 := Lib.hid g2; have HF4 := Lib.hid g3; rw [HAc.out]; clear g1 g2 g3)
          | (go_at_call 40; refine (log_Room w4 HL4.out HSz.out.1 HSz.out.2).mono ?_; rintro e w5 ⟨rfl, g1⟩; have HV5 := Lib.hid g1; rw [HRmN.out]; clear g1))
        go_roundg (gk - 1)
        case measure => have := HJ.out; omega
        case rel =>
          have hj := HJ.out
          have z3 := HV3.out.size
          have z0 := HUp.out.size
          have hfi := HFi.out.append r
          rw [HApp.out.2.2] at hfi
          refine ⟨j + 1, by omega, by go_num, S, F4, HL4.out.keep HV5.out, hfi, ?_, HSe.out, ((HUp.out.trans HV3.out (fun _ f _ => f.elim)).trans HV4.out (fun k hk hlt => absurd (HF'.out k hk) (Nat.not_le_of_lt hlt))).trans HV5.out (fun _ f _ => f), fun k hk => ?_⟩
          · exact HLa.out
          · rcases HF4.out k hk with q | q
            · exact HF'.out k q
            · exact Nat.le_trans (Nat.le_trans z0 z3) q.1
    · go_wp2_with (go_at_call 40; refine HRm.out.mono ?_; rintro e w3 ⟨rfl, g1⟩; have HV3 := Lib.hid g1; clear g1)
      go_ret
      exact ⟨rfl, HUp.out.trans HV3.out (fun _ f _ => f)⟩
end Go.Proofs.YtbaombnnagidcaaDoor.logRoom
