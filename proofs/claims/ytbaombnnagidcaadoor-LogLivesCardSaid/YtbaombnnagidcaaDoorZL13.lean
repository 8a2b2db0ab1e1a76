/- The program's log: none, Room, Last, First, Forced, Append. -/
import Derived.Test.YtbaombnnagidcaaDoorZL12

namespace Go.Proofs.YtbaombnnagidcaaDoor
open Go.RowKit

abbrev LogRep := LRep 69 true

theorem log_none_no {F : Nat → Prop} (w : World) {s d : Nat} {S : LogS} (h : LogRep F w s d S) :
    Calls Tryd.prog 75 #[.pointer (some ⟨s, 0, none⟩)] w fun e w' => e = .returned (.bool false) ∧ w = w' := by
  obtain ⟨R, a, c, h1, h2, h3, h4⟩ := h
  have c0 : w.cell? ⟨s, 0, none⟩ = some (.pointer (some ⟨d, 0, none⟩)) := h3.cell 0
  clear h1 h2 h3 h4
  go_enter Tryd.func75, Tryd.ntmps75
  go_wp2
  go_ret
  exact ⟨rfl, rfl⟩

theorem log_Room {F : Nat → Prop} (w : World) {s d : Nat} {S : LogS} (h : LogRep F w s d S) (hs : S.sectors ≤ 4096) (hl : S.stream.length ≤ S.sectors * 112) :
    Calls Tryd.prog 40 #[.pointer (some ⟨s, 0, none⟩)] w fun e w' => e = .returned (.int .i64 ((S.sectors * 112 - S.stream.length : Nat) : Int)) ∧ Upd Nil w w' := by
  have HN := Lib.hid (log_none_no w h)
  obtain ⟨R, a, c, h1, h2, h3, h4⟩ := h
  have c2 : w.cell? ⟨s, 2, none⟩ = some (.int .i64 (S.sectors : Int)) := h3.cell 2
  have c6 : w.cell? ⟨s, 6, none⟩ = some (.slice a S.stream.length c) := h3.cell 6
  have e1 : (S.sectors : Int) * 112 - (S.stream.length : Int) = ((S.sectors * 112 - S.stream.length : Nat) : Int) := by omega
  have v1 : IntKind.i64.wrap ((S.sectors : Int) * 112) = (S.sectors : Int) * 112 := IntWalk.i64_in _ (by omega)
  have v2 : IntKind.i64.wrap ((S.sectors : Int) * 112 - (S.stream.length : Int)) = (S.sectors : Int) * 112 - (S.stream.length : Int) := IntWalk.i64_in _ (by omega)
  clear h1 h2 h3 h4
  go_enter Tryd.func40, Tryd.ntmps40
  go_wp2_with (go_at_call 75; refine HN.out.mono ?_; rintro e w' ⟨rfl, rfl⟩)
  go_quiet (fail)
  go_wp2
  go_ret
  refine ⟨?_, (Upd.refl Nil w).drewN _⟩
  rfl

theorem log_Last {F : Nat → Prop} (w : World) {s d : Nat} {S : LogS} (h : LogRep F w s d S) :
    Calls Tryd.prog 42 #[.pointer (some ⟨s, 0, none⟩)] w fun e w' => e = .returned (.int .i64 (S.last : Int)) ∧ w = w' := by
  have HN := Lib.hid (log_none_no w h)
  obtain ⟨R, a, c, h1, h2, h3, h4⟩ := h
  have c4 : w.cell? ⟨s, 4, none⟩ = some (.int .i64 (S.last : Int)) := h3.cell 4
  clear h1 h2 h3 h4
  go_enter Tryd.func42, Tryd.ntmps42
  go_wp2_with (go_at_call 75; refine HN.out.mono ?_; rintro e w' ⟨rfl, rfl⟩)
  go_ret
  exact ⟨rfl, rfl⟩
theorem log_First {F : Nat → Prop} (w : World) {s d : Nat} {S : LogS} (h : LogRep F w s d S) :
    Calls Tryd.prog 45 #[.pointer (some ⟨s, 0, none⟩)] w fun e w' => e = .returned (.int .i64 (S.first : Int)) ∧ w = w' := by
  have HN := Lib.hid (log_none_no w h)
  obtain ⟨R, a, c, h1, h2, h3, h4⟩ := h
  have c4 : w.cell? ⟨s, 3, none⟩ = some (.int .i64 (S.first : Int)) := h3.cell 3
  clear h1 h2 h3 h4
  go_enter Tryd.func45, Tryd.ntmps45
  go_wp2_with (go_at_call 75; refine HN.out.mono ?_; rintro e w' ⟨rfl, rfl⟩)
  go_ret
  exact ⟨rfl, rfl⟩
theorem log_Forced {F : Nat → Prop} (w : World) {s d : Nat} {S : LogS} (h : LogRep F w s d S) :
    Calls Tryd.prog 46 #[.pointer (some ⟨s, 0, none⟩)] w fun e w' => e = .returned (.int .i64 (S.forced : Int)) ∧ w = w' := by
  have HN := Lib.hid (log_none_no w h)
  obtain ⟨R, a, c, h1, h2, h3, h4⟩ := h
  have c4 : w.cell? ⟨s, 5, none⟩ = some (.int .i64 (S.forced : Int)) := h3.cell 5
  clear h1 h2 h3 h4
  go_enter Tryd.func46, Tryd.ntmps46
  go_wp2_with (go_at_call 75; refine HN.out.mono ?_; rintro e w' ⟨rfl, rfl⟩)
  go_ret
  exact ⟨rfl, rfl⟩

/-- a record's text -/
def recL (r : List UInt8) : List UInt8 := putL r.length ++ r
theorem recL_text (r : List UInt8) : textL (str r) = recL r := by rw [textL, size_str]; rfl
theorem length_recL {r : List UInt8} (h : r.length ≤ 2000) : r.length + 1 ≤ (recL r).length ∧ (recL r).length ≤ r.length + 9 := by
  have h1 := length_putL_pos r.length
  have h2 := length_putL (n := r.length) (by omega)
  rw [recL, List.length_append]
  omega
/-- what Append answers, and the log behind it -/
def appendC (S : LogS) (r : List UInt8) : Int :=
  if r.length = 0 then 1 else if 2000 < r.length then 12 else if S.sectors * 112 - S.stream.length < (recL r).length ∨ 4611686018427387904 ≤ S.last then 4 else 0
def appendS (S : LogS) (r : List UInt8) : LogS := if appendC S r = 0 then { S with stream := S.stream ++ recL r, last := S.last + 1 } else S
def appendN (S : LogS) (r : List UInt8) : Nat := if appendC S r = 0 then S.last + 1 else 0
/-- a log's sizes -/
structure LFine (S : LogS) : Prop where
  pos : 1 ≤ S.sectors
  le : S.fr + S.sectors ≤ 4096
  stream : S.stream.length ≤ S.sectors * 112
  durable : S.durable ≤ S.stream.length
  first : 1 ≤ S.first
  first2 : S.first ≤ 4611686018427387904
  last : S.last ≤ 4611686018430000000
  forced : S.forced ≤ S.last
  next : S.first ≤ S.last + 1
  some : S.stream ≠ [] → S.first ≤ S.last

set_option maxRecDepth 100000 in
set_option maxHeartbeats 4000000 in
theorem log_Append {F G : Nat → Prop} (w : World) {s d : Nat} {S : LogS} (h : LogRep F w s d S) (hf : LFine S) {ra : Option Addr} (rc : Nat) {r : List UInt8} (hr : Row G w ra (bvs r)) (hx : r.length ≤ 140737488355328) :
    Calls Tryd.prog 41 #[.pointer (some ⟨s, 0, none⟩), .slice ra r.length rc] w (LGot 69 true F w s d (.tuple #[.int .i64 (appendN S r : Int), .int .i64 (appendC S r)]) (appendS S r)) := by
  have HL := Lib.hid h
  have HN := Lib.hid (log_none_no w h)
  have HRr := Lib.hid hr
  have hcs : (r.length = 0 ∧ appendC S r = 1) ∨ (r.length ≠ 0 ∧ 2000 < r.length ∧ appendC S r = 12) ∨ (r.length ≠ 0 ∧ r.length ≤ 2000 ∧ S.sectors * 112 - S.stream.length < (recL r).length ∧ appendC S r = 4) ∨
      (r.length ≠ 0 ∧ r.length ≤ 2000 ∧ (recL r).length ≤ S.sectors * 112 - S.stream.length ∧ 4611686018427387904 ≤ S.last ∧ appendC S r = 4) ∨ (r.length ≠ 0 ∧ r.length ≤ 2000 ∧ (recL r).length ≤ S.sectors * 112 - S.stream.length ∧ S.last < 4611686018427387904 ∧ appendC S r = 0) := by
    unfold appendC
    by_cases q1 : r.length = 0
    · exact .inl ⟨q1, if_pos q1⟩
    · rw [if_neg q1]
      by_cases q2 : 2000 < r.length
      · exact .inr (.inl ⟨q1, q2, if_pos q2⟩)
      · rw [if_neg q2]
        by_cases q3 : S.sectors * 112 - S.stream.length < (recL r).length
        · exact .inr (.inr (.inl ⟨q1, by omega, q3, if_pos (.inl q3)⟩))
        · by_cases q4 : 4611686018427387904 ≤ S.last
          · exact .inr (.inr (.inr (.inl ⟨q1, by omega, by omega, q4, if_pos (.inr q4)⟩)))
          · exact .inr (.inr (.inr (.inr ⟨q1, by omega, by omega, by omega, if_neg (by omega)⟩)))
  have hc0 : ∀ z, appendC S r = z → z ≠ 0 → appendN S r = 0 ∧ appendS S r = S := fun z h1 h2 => by
    unfold appendN appendS
    rw [if_neg (by rw [h1]; exact h2), if_neg (by rw [h1]; exact h2)]
    exact ⟨rfl, rfl⟩
  clear h
  rcases hcs with ⟨q1, hC⟩ | ⟨q1, q2, hC⟩ | hcs
  · obtain ⟨hN, hS⟩ := hc0 _ hC (by decide)
    rw [hC, hN, hS]
    have q2 : ((r.length : Int) == 0) = true := by rw [beq_iff_eq]; omega
    clear hC hN hS hc0 hr
    go_enter Tryd.func41, Tryd.ntmps41
    go_wp2_with (go_at_call 75; refine HN.out.mono ?_; rintro e w' ⟨rfl, rfl⟩)
    go_ret2
    exact LGot.same HL.out (Upd.refl _ _)
  · obtain ⟨hN, hS⟩ := hc0 _ hC (by decide)
    rw [hC, hN, hS]
    have q3 : ((r.length : Int) == 0) = false := by rw [beq_eq_false_iff_ne]; omega
    clear hC hN hS hc0 hr
    go_enter Tryd.func41, Tryd.ntmps41
    go_wp2_with (go_at_call 75; refine HN.out.mono ?_; rintro e w' ⟨rfl, rfl⟩)
    go_ret2
    exact LGot.same HL.out (Upd.refl _ _)
  · have hq : r.length ≠ 0 ∧ r.length ≤ 2000 := by
      rcases hcs with h | h | h
      · exact ⟨h.1, h.2.1⟩
      · exact ⟨h.1, h.2.1⟩
      · exact ⟨h.1, h.2.1⟩
    obtain ⟨q1, q2⟩ := hq
    have q3 : ((r.length : Int) == 0) = false := by rw [beq_eq_false_iff_ne]; omega
    have cv : (convert 22 9 (.slice ra r.length rc)).run Tryd.prog w = .ok (.string (str r)) w := run_convert_Row (P := Tryd.prog) hr 22 5 9 Tryd.underlying22 Tryd.underlying5 Tryd.underlying9 rc
    have hT := wire_Text (F := Nil) w (xs := []) 0 (Row.nil _ _ none) (fun _ => rfl) (str r) (by rw [size_str, List.length_nil]; omega)
    rw [List.nil_append, recL_text] at hT
    have htl := length_recL q2
    have hne : recL r ≠ [] := by intro e; rw [e, List.length_nil] at htl; omega
    obtain ⟨T, hTe⟩ : ∃ T, recL r = T := ⟨_, rfl⟩
    rw [hTe] at hT htl hne hcs
    obtain ⟨sx, hsx⟩ : ∃ x, str r = x := ⟨_, rfl⟩
    rw [hsx] at hT cv
    have HT := Lib.hid hT
    have HNe := Lib.hid hne
    have HTe := Lib.hid hTe
    have hsec : S.sectors ≤ 4096 := by have := hf.le; omega
    have hRm := fun w2 (u : Upd Nil w w2) => log_Room w2 (HL.out.keep u) hsec hf.stream
    have HRm := Lib.hid hRm
    obtain ⟨R, a, c, k1, k2, k3, k4⟩ := id HL.out
    have HB := Lib.hid k3
    have HH := Lib.hid k4
    have HR2 := Lib.hid k2
    have HFs := Lib.hid k1
    have hsz := k3.lt
    obtain ⟨room, hroom⟩ : ∃ n, S.sectors * 112 - S.stream.length = n := ⟨_, rfl⟩
    rw [hroom] at hcs HRm
    have hrm : room ≤ 460000 := by rw [← hroom]; omega
    clear hr hT hTe hne hRm k1 k2 k3 k4 hsx
    obtain ⟨i0, hi, hz0, hz1, hz2⟩ := info_parts infoU8
    have hi0 := Lib.hid (And.intro hi (And.intro hz0 (And.intro hz1 hz2)))
    clear hi hz0 hz1 hz2
    rcases hcs with ⟨_, _, q4, hC⟩ | ⟨_, _, q4, q5, hC⟩ | ⟨_, _, q4, q5, hC⟩
    · obtain ⟨hN, hS⟩ := hc0 _ hC (by decide)
      rw [hC, hN, hS]
      clear hC hN hS hc0
      go_enter Tryd.func41, Tryd.ntmps41
      go_wp2_with (first
        | (go_at_call 75; refine HN.out.mono ?_; rintro e w' ⟨rfl, rfl⟩)
        | (go_at_call 15; refine HT.out.mono ?_; rintro e w1 ⟨a1, c1, rfl, g1, g2⟩; have HO1 := Lib.hid g1; have HU1 := Lib.hid g2; clear g1 g2)
        | (go_at_call 40; refine (HRm.out _ HU1.out).mono ?_; rintro e w2 ⟨rfl, g⟩; have HU2 := Lib.hid (HU1.out.trans g (fun _ f _ => f)); clear g))
      go_ret2
      exact LGot.same HL.out HU2.out
    · obtain ⟨hN, hS⟩ := hc0 _ hC (by decide)
      rw [hC, hN, hS]
      clear hC hN hS hc0
      go_enter Tryd.func41, Tryd.ntmps41
      go_wp2_with (first
        | (go_at_call 75; refine HN.out.mono ?_; rintro e w' ⟨rfl, rfl⟩)
        | (go_at_call 15; refine HT.out.mono ?_; rintro e w1 ⟨a1, c1, rfl, g1, g2⟩; have HO1 := Lib.hid g1; have HU1 := Lib.hid g2; clear g1 g2)
        | (go_at_call 40; refine (HRm.out _ HU1.out).mono ?_; rintro e w2 ⟨rfl, g⟩; have HU2 := Lib.hid (HU1.out.trans g (fun _ f _ => f)); have c4 : w2.cell? ⟨s, 4, none⟩ = some (.int .i64 (S.last : Int)) := (HB.out.upd HU2.out (fun f => f)).cell 4; clear g))
      go_ret2
      exact LGot.same HL.out HU2.out
    · have hN : appendN S r = S.last + 1 := if_pos hC
      have hS : appendS S r = { S with stream := S.stream ++ T, last := S.last + 1 } := by rw [← HTe.out]; exact if_pos hC
      rw [hC, hN, hS]
      clear hC hN hS hc0
      go_enter Tryd.func41, Tryd.ntmps41
      go_wp2_with (first
        | (go_at_call 75; refine HN.out.mono ?_; rintro e w' ⟨rfl, rfl⟩)
        | (go_at_call 15; refine HT.out.mono ?_; rintro e w1 ⟨a1, c1, rfl, g1, g2⟩; have HO1 := Lib.hid g1; have HU1 := Lib.hid g2; clear g1 g2)
        | (go_at_call 40; refine (HRm.out _ HU1.out).mono ?_; rintro e w2 ⟨rfl, g⟩; have HU2 := Lib.hid (HU1.out.trans g (fun _ f _ => f)); have hb := HB.out.upd HU2.out (fun f => f); have c4 : w2.cell? ⟨s, 4, none⟩ = some (.int .i64 (S.last : Int)) := hb.cell 4; have c6 : w2.cell? ⟨s, 6, none⟩ = some (.slice a S.stream.length c) := hb.cell 6; have HB2 := Lib.hid hb; have HH2 := Lib.hid (HH.out.upd HU2.out (fun _ _ f => f)); have HO2 := Lib.hid (HO1.out.keep g); clear g hb)
        | (at_builtin; refine wpList_append_Held rfl (.tmp 37) (.tmp 38) 22 rfl Tryd.underlying22 hi0.out.1 hi0.out.2.1 hi0.out.2.2.1 hi0.out.2.2.2 rfl rfl HH2.out rfl rfl HO2.out.row HNe.out (by have := hf.stream; omega) ?_; intro a3 c3 w3 g1 g2; have HO3 := Lib.hid g1; have HU3 := Lib.hid g2; have hb3 := HB2.out.upd g2 (fun f => (HR2.out _ f).2.1 rfl); have d4 : w3.cell? ⟨s, 4, none⟩ = some (.int .i64 (S.last : Int)) := hb3.cell 4; have d6 : w3.cell? ⟨s, 6, none⟩ = some (.slice a S.stream.length c) := hb3.cell 6; have df4 := hb3.frozen 4; have df6 := hb3.frozen 6; have HB3 := Lib.hid hb3; clear g1 g2 hb3 c4 c6))
      go_ret2
      have hz2 := HU2.out.size
      have hz3 := HU3.out.size
      have hFr : ∀ W : World, W.heap.size = w3.heap.size → ∀ k, (R k ∨ Fr w2 w3 k) → (F k ∨ Fr w W k) ∧ k ≠ s ∧ k < W.heap.size := fun W hW k hk => by
        rw [Fr, hW]
        rcases hk with hk | hk
        · have := HR2.out k hk
          exact ⟨.inl this.1, this.2.1, by omega⟩
        · have h1 := hk.1
          have h2 := hk.2
          exact ⟨.inr ⟨by omega, h2⟩, by omega, h2⟩
      have hown := HO3.out.upd ((((Upd.refl (One s) w3).setCell (p := ⟨s, 6, none⟩) (.inl rfl) (.slice a3 (S.stream.length + T.length) c3)).setCell (p := ⟨s, 4, none⟩) (.inl rfl) (.int .i64 ((S.last : Int) + 1)))) (fun k hk e => (hFr w3 rfl k hk).2.1 e)
      have hup : Upd F w ((w3.setCell ⟨s, 6, none⟩ (.slice a3 (S.stream.length + T.length) c3)).setCell ⟨s, 4, none⟩ (.int .i64 ((S.last : Int) + 1))) := ((HU2.out.ofNil.trans (G := F) HU3.out (fun k hk _ => (HR2.out k hk).1)).setCell (p := ⟨s, 6, none⟩) (.inl HFs.out) _).setCell (p := ⟨s, 4, none⟩) (.inl HFs.out) _
      have hblk := (HB3.out.set 6 (.slice a3 (S.stream.length + T.length) c3)).set 4 (.int .i64 ((S.last : Int) + 1))
      rw [List.length_append] at hown
      refine ⟨rfl, fun k => F k ∨ Fr w _ k, ⟨fun k => R k ∨ Fr w2 w3 k, a3, c3, .inl HFs.out, hFr _ (by simp [World.setCell]), ?_, Held.own ?_⟩, hup, fun _ hk => hk⟩
      · rw [logCells, List.length_append]
        exact hblk
      · rw [List.length_append]
        exact hown
end Go.Proofs.YtbaombnnagidcaaDoor
