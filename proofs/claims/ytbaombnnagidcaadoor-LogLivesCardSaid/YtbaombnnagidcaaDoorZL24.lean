/- The document's log: Room, Last, First, Forced, Append. -/
import Derived.Test.YtbaombnnagidcaaDoorZL13
import Derived.Test.YtbaombnnagidcaaDoorZL08

namespace Go.Proofs.YtbaombnnagidcaaDoor
open Go.RowKit

abbrev RefRep := LRep 157 false

theorem ref3_Room {F : Nat → Prop} (w : World) {s d : Nat} {S : LogS} (h : RefRep F w s d S) (hs : S.sectors ≤ 4096) (hl : S.stream.length ≤ S.sectors * 112) :
    Calls Tryd.prog 93 #[.pointer (some ⟨s, 0, none⟩)] w fun e w' => e = .returned (.int .i64 ((S.sectors * 112 - S.stream.length : Nat) : Int)) ∧ Upd Nil w w' := by
  obtain ⟨R, a, c, h1, h2, h3, h4⟩ := h
  have c2 : w.cell? ⟨s, 2, none⟩ = some (.int .i64 (S.sectors : Int)) := h3.cell 2
  have c6 : w.cell? ⟨s, 6, none⟩ = some (.slice a S.stream.length c) := h3.cell 6
  have e1 : (S.sectors : Int) * 112 - (S.stream.length : Int) = ((S.sectors * 112 - S.stream.length : Nat) : Int) := by omega
  have v1 : IntKind.i64.wrap ((S.sectors : Int) * 112) = (S.sectors : Int) * 112 := IntWalk.i64_in _ (by omega)
  have v2 : IntKind.i64.wrap ((S.sectors : Int) * 112 - (S.stream.length : Int)) = (S.sectors : Int) * 112 - (S.stream.length : Int) := IntWalk.i64_in _ (by omega)
  clear h1 h2 h3 h4
  go_enter Tryd.func93, Tryd.ntmps93
  go_wp2
  go_quiet (fail)
  go_wp2
  go_ret
  refine ⟨?_, (Upd.refl Nil w).drewN _⟩
  rfl
theorem ref3_Last {F : Nat → Prop} (w : World) {s d : Nat} {S : LogS} (h : RefRep F w s d S) :
    Calls Tryd.prog 91 #[.pointer (some ⟨s, 0, none⟩)] w fun e w' => e = .returned (.int .i64 (S.last : Int)) ∧ w = w' := by
  obtain ⟨R, a, c, h1, h2, h3, h4⟩ := h
  have c4 : w.cell? ⟨s, 4, none⟩ = some (.int .i64 (S.last : Int)) := h3.cell 4
  clear h1 h2 h3 h4
  go_enter Tryd.func91, Tryd.ntmps91
  go_wp2
  go_ret
  exact ⟨rfl, rfl⟩
theorem ref3_First {F : Nat → Prop} (w : World) {s d : Nat} {S : LogS} (h : RefRep F w s d S) :
    Calls Tryd.prog 90 #[.pointer (some ⟨s, 0, none⟩)] w fun e w' => e = .returned (.int .i64 (S.first : Int)) ∧ w = w' := by
  obtain ⟨R, a, c, h1, h2, h3, h4⟩ := h
  have c4 : w.cell? ⟨s, 3, none⟩ = some (.int .i64 (S.first : Int)) := h3.cell 3
  clear h1 h2 h3 h4
  go_enter Tryd.func90, Tryd.ntmps90
  go_wp2
  go_ret
  exact ⟨rfl, rfl⟩
theorem ref3_Forced {F : Nat → Prop} (w : World) {s d : Nat} {S : LogS} (h : RefRep F w s d S) :
    Calls Tryd.prog 92 #[.pointer (some ⟨s, 0, none⟩)] w fun e w' => e = .returned (.int .i64 (S.forced : Int)) ∧ w = w' := by
  obtain ⟨R, a, c, h1, h2, h3, h4⟩ := h
  have c4 : w.cell? ⟨s, 5, none⟩ = some (.int .i64 (S.forced : Int)) := h3.cell 5
  clear h1 h2 h3 h4
  go_enter Tryd.func92, Tryd.ntmps92
  go_wp2
  go_ret
  exact ⟨rfl, rfl⟩

set_option maxRecDepth 100000 in
set_option maxHeartbeats 4000000 in
theorem ref3_Append {F G : Nat → Prop} (w : World) {s d : Nat} {S : LogS} (h : RefRep F w s d S) (hf : LFine S) {ra : Option Addr} (rc : Nat) {r : List UInt8} (hr : Row G w ra (bvs r)) (hx : r.length ≤ 140737488355328) :
    Calls Tryd.prog 86 #[.pointer (some ⟨s, 0, none⟩), .slice ra r.length rc] w (LGot 157 false F w s d (.tuple #[.int .i64 (appendN S r : Int), .int .i64 (appendC S r)]) (appendS S r)) := by
  have HL := Lib.hid h
  have hcs : (r.length = 0 ∧ appendC S r = 1) ∨ (r.length ≠ 0 ∧ 2000 < r.length ∧ appendC S r = 12) ∨ (r.length ≠ 0 ∧ r.length ≤ 2000 ∧ S.sectors * 112 - S.stream.length < (recL r).length ∧ appendC S r = 4) ∨
      (r.length ≠ 0 ∧ r.length ≤ 2000 ∧ (recL r).length ≤ S.sectors * 112 - S.stream.length ∧ 4611686018427387904 ≤ S.last ∧ appendC S r = 4) ∨ (r.length ≠ 0 ∧ r.length ≤ 2000 ∧ (recL r).length ≤ S.sectors * 112 - S.stream.length ∧ S.last < 4611686018427387904 ∧ appendC S r = 0) := by
    unfold appendC
    by_cases q1 : r.length = 0
    · exact .inl ⟨q1, if_pos q1⟩
    · rw [if_neg q1]
      by_cases q2 : 2000 < r.length
      · exact .inr (.inl ⟨q1, q2, if_pos q2⟩)
      · rw [if_neg q2]
        by_cases q3 : S.sectors * 112 - S.stream.length < (recL r).length
        · exact .inr (.inr (.inl ⟨q1, by omega, q3, if_pos (.inl q3)⟩))
        · by_cases q4 : 4611686018427387904 ≤ S.last
          · exact .inr (.inr (.inr (.inl ⟨q1, by omega, by omega, q4, if_pos (.inr q4)⟩)))
          · exact .inr (.inr (.inr (.inr ⟨q1, by omega, by omega, by omega, if_neg (by omega)⟩)))
  have hc0 : ∀ z, appendC S r = z → z ≠ 0 → appendN S r = 0 ∧ appendS S r = S := fun z h1 h2 => by
    unfold appendN appendS
    rw [if_neg (by rw [h1]; exact h2), if_neg (by rw [h1]; exact h2)]
    exact ⟨rfl, rfl⟩
  clear h
  rcases hcs with ⟨q1, hC⟩ | ⟨q1, q2, hC⟩ | hcs
  · obtain ⟨hN, hS⟩ := hc0 _ hC (by decide)
    rw [hC, hN, hS]
    have q2 : ((r.length : Int) == 0) = true := by rw [beq_iff_eq]; omega
    clear hC hN hS hc0 hr
    go_enter Tryd.func86, Tryd.ntmps86
    go_wp2
    go_ret2
    exact LGot.same HL.out (Upd.refl _ _)
  · obtain ⟨hN, hS⟩ := hc0 _ hC (by decide)
    rw [hC, hN, hS]
    have q3 : ((r.length : Int) == 0) = false := by rw [beq_eq_false_iff_ne]; omega
    clear hC hN hS hc0 hr
    go_enter Tryd.func86, Tryd.ntmps86
    go_wp2
    go_ret2
    exact LGot.same HL.out (Upd.refl _ _)
  · have hq : r.length ≠ 0 ∧ r.length ≤ 2000 := by
      rcases hcs with h | h | h
      · exact ⟨h.1, h.2.1⟩
      · exact ⟨h.1, h.2.1⟩
      · exact ⟨h.1, h.2.1⟩
    obtain ⟨q1, q2⟩ := hq
    have q3 : ((r.length : Int) == 0) = false := by rw [beq_eq_false_iff_ne]; omega
    have cv : (convert 22 9 (.slice ra r.length rc)).run Tryd.prog w = .ok (.string (str r)) w := run_convert_Row (P := Tryd.prog) hr 22 5 9 Tryd.underlying22 Tryd.underlying5 Tryd.underlying9 rc
    have hT := ref_Text (F := Nil) w (xs := []) 0 (Row.nil _ _ none) (fun _ => rfl) (str r) (by rw [size_str, List.length_nil]; omega)
    rw [List.nil_append, recL_text] at hT
    have htl := length_recL q2
    obtain ⟨T, hTe⟩ : ∃ T, recL r = T := ⟨_, rfl⟩
    rw [hTe] at hT htl hcs
    obtain ⟨sx, hsx⟩ : ∃ x, str r = x := ⟨_, rfl⟩
    rw [hsx] at hT cv
    have HT := Lib.hid hT
    have HTe := Lib.hid hTe
    have hsec : S.sectors ≤ 4096 := by have := hf.le; omega
    have hRm := fun w2 (u : Upd Nil w w2) => ref3_Room w2 (HL.out.keep u) hsec hf.stream
    have HRm := Lib.hid hRm
    obtain ⟨R, a, c, k1, k2, k3, k4⟩ := id HL.out
    have HB := Lib.hid k3
    have HH := Lib.hid k4
    have HR2 := Lib.hid k2
    have HFs := Lib.hid k1
    have hsz := k3.lt
    obtain ⟨room, hroom⟩ : ∃ n, S.sectors * 112 - S.stream.length = n := ⟨_, rfl⟩
    rw [hroom] at hcs HRm
    have hrm : room ≤ 460000 := by rw [← hroom]; omega
    have hst : S.stream.length ≤ 460000 := by have := hf.stream; omega
    clear hr hT hTe hRm k1 k2 k3 k4 hsx
    obtain ⟨i0, hi, hz0, hz1, hz2⟩ := info_parts infoU8
    have hi0 := Lib.hid (And.intro hi (And.intro hz0 (And.intro hz1 hz2)))
    clear hi hz0 hz1 hz2
    rcases hcs with ⟨_, _, q4, hC⟩ | ⟨_, _, q4, q5, hC⟩ | ⟨_, _, q4, q5, hC⟩
    · obtain ⟨hN, hS⟩ := hc0 _ hC (by decide)
      rw [hC, hN, hS]
      clear hC hN hS hc0
      go_enter Tryd.func86, Tryd.ntmps86
      go_wp2_with (first
        | (go_at_call 18; refine HT.out.mono ?_; rintro e w1 ⟨a1, c1, rfl, g1, g2⟩; have HO1 := Lib.hid g1; have HU1 := Lib.hid g2; clear g1 g2)
        | (go_at_call 93; refine (HRm.out _ HU1.out).mono ?_; rintro e w2 ⟨rfl, g⟩; have HU2 := Lib.hid (HU1.out.trans g (fun _ f _ => f)); clear g))
      go_ret2
      exact LGot.same HL.out HU2.out
    · obtain ⟨hN, hS⟩ := hc0 _ hC (by decide)
      rw [hC, hN, hS]
      clear hC hN hS hc0
      go_enter Tryd.func86, Tryd.ntmps86
      go_wp2_with (first
        | (go_at_call 18; refine HT.out.mono ?_; rintro e w1 ⟨a1, c1, rfl, g1, g2⟩; have HO1 := Lib.hid g1; have HU1 := Lib.hid g2; clear g1 g2)
        | (go_at_call 93; refine (HRm.out _ HU1.out).mono ?_; rintro e w2 ⟨rfl, g⟩; have HU2 := Lib.hid (HU1.out.trans g (fun _ f _ => f)); have c4 : w2.cell? ⟨s, 4, none⟩ = some (.int .i64 (S.last : Int)) := (HB.out.upd HU2.out (fun f => f)).cell 4; clear g))
      go_ret2
      exact LGot.same HL.out HU2.out
    · have hN : appendN S r = S.last + 1 := if_pos hC
      have hS : appendS S r = { S with stream := S.stream ++ T, last := S.last + 1 } := by rw [← HTe.out]; exact if_pos hC
      rw [hC, hN, hS]
      clear hC hN hS hc0
      have tok1 : True := trivial
      go_enter Tryd.func86, Tryd.ntmps86
      go_wp2_with (first
        | (go_at_call 18; refine HT.out.mono ?_; rintro e w1 ⟨a1, c1, rfl, g1, g2⟩; have HO1 := Lib.hid g1; have HU1 := Lib.hid g2; clear g1 g2)
        | (go_at_call 93; refine (HRm.out _ HU1.out).mono ?_; rintro e w2 ⟨rfl, g⟩; have HU2 := Lib.hid (HU1.out.trans g (fun _ f _ => f)); have hb := HB.out.upd HU2.out (fun f => f); have c4 : w2.cell? ⟨s, 4, none⟩ = some (.int .i64 (S.last : Int)) := hb.cell 4; have c6 : w2.cell? ⟨s, 6, none⟩ = some (.slice a S.stream.length c) := hb.cell 6; have c6a : (w2.alloc (.cells #[] 5)).cell? ⟨s, 6, none⟩ = some (.slice a S.stream.length c) := (hb.alloc _).cell 6; have HB2 := Lib.hid hb; have HH2 := Lib.hid (HH.out.upd HU2.out (fun _ _ f => f)); have HO2 := Lib.hid (HO1.out.keep g); clear g hb)
        | (have _t := tok1; at_builtin; refine wpList_append_Own rfl (.tmp 29) (.tmp 33) 22 rfl Tryd.underlying22 hi0.out.1 hi0.out.2.1 hi0.out.2.2.1 hi0.out.2.2.2 rfl (by decide) rfl (own_empty w2) rfl (HH2.out.1.alloc _) (by simp) (bvs_one _) HH2.out.2.1 (by simp only [maxLen]; omega) (by omega) ?_; intro a3 c3 w3 g1 g2 _; have HO3 := Lib.hid (put_start g1 g2); have hu3 := put_start_upd g2; have HU3 := Lib.hid (HU2.out.trans hu3 (fun _ f _ => f)); have HZ3 := Lib.hid hu3.size; have HO2b := Lib.hid (HO2.out.keep hu3); have hb3 := HB2.out.upd hu3 (fun f => f); have HB3 := Lib.hid hb3; clear g1 g2 hb3 hu3 tok1 c4 c6 c6a; rw [Nat.zero_add])
        | (at_builtin; refine wpList_append_Own rfl (.tmp 34) (.tmp 35) 22 rfl Tryd.underlying22 hi0.out.1 hi0.out.2.1 hi0.out.2.2.1 hi0.out.2.2.2 rfl (by decide) rfl HO3.out rfl HO2b.out.row (by rw [length_bvs, Nat.mul_one]) (bvs_one _) HO2b.out.noneCap (by simp only [maxLen]; omega) (by omega) ?_; intro a4 c4 w4 g1 g2 _; rw [← bvs_append] at g1; have HO4 := Lib.hid g1; have hu4 := g2; have hb4 := HB3.out.upd g2 (fun f => by have := f.1; have := HB2.out.lt; omega); have d4 : w4.cell? ⟨s, 4, none⟩ = some (.int .i64 (S.last : Int)) := hb4.cell 4; have d6 : w4.cell? ⟨s, 6, none⟩ = some (.slice a S.stream.length c) := hb4.cell 6; have df4 := hb4.frozen 4; have df6 := hb4.frozen 6; have HB4 := Lib.hid hb4; have HU4 := Lib.hid hu4; clear g1 g2 hb4 hu4))
      go_ret2
      have z2 := HU2.out.size
      have z3 := HZ3.out
      have z4 := HU4.out.size
      have hFr : ∀ W : World, W.heap.size = w4.heap.size → ∀ k, (Fr w2 w3 k ∨ Fr w3 w4 k) → (F k ∨ Fr w W k) ∧ k ≠ s ∧ k < W.heap.size := fun W hW k hk => by
        have : w2.heap.size ≤ k ∧ k < w4.heap.size := by
          rcases hk with h | h
          · exact ⟨h.1, by have := h.2; omega⟩
          · exact ⟨by have := h.1; omega, h.2⟩
        rw [Fr, hW]
        exact ⟨.inr ⟨by omega, this.2⟩, by omega, this.2⟩
      have hown := HO4.out.upd ((((Upd.refl (One s) w4).setCell (p := ⟨s, 6, none⟩) (.inl rfl) (.slice a4 (S.stream.length + T.length) c4)).setCell (p := ⟨s, 4, none⟩) (.inl rfl) (.int .i64 ((S.last : Int) + 1)))) (fun k hk e => (hFr w4 rfl k hk).2.1 e)
      have hup : Upd F w ((w4.setCell ⟨s, 6, none⟩ (.slice a4 (S.stream.length + T.length) c4)).setCell ⟨s, 4, none⟩ (.int .i64 ((S.last : Int) + 1))) := ((HU3.out.past HU4.out (fun k hk => Nat.le_trans z2 hk.1)).ofNil.setCell (p := ⟨s, 6, none⟩) (.inl HFs.out) _).setCell (p := ⟨s, 4, none⟩) (.inl HFs.out) _
      have hblk := (HB4.out.set 6 (.slice a4 (S.stream.length + T.length) c4)).set 4 (.int .i64 ((S.last : Int) + 1))
      refine ⟨rfl, fun k => F k ∨ Fr w _ k, ⟨fun k => Fr w2 w3 k ∨ Fr w3 w4 k, a4, c4, .inl HFs.out, hFr _ (by simp [World.setCell]), ?_, Held.own ?_⟩, hup, fun _ hk => hk⟩
      · rw [logCells, List.length_append]
        exact hblk
      · rw [List.length_append]
        exact hown
end Go.Proofs.YtbaombnnagidcaaDoor
