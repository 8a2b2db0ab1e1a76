/- Whether a request, a reply may be: of the program and of the document. -/
import Derived.Test.YtbaombnnagidcaaDoorZL03

namespace Go.Proofs.YtbaombnnagidcaaDoor
open Go.RowKit

/-- a request, a reply -/
structure Req where
  id : ByteArray
  kind : Int
  session : Int
  text : ByteArray
structure Rep where
  id : ByteArray
  status : Int
  session : Int
  why : Int
  text : ByteArray
def Req.val (r : Req) : Value := .agg #[.string r.id, .int .i64 r.kind, .int .i64 r.session, .string r.text]
def Rep.val (r : Rep) : Value := .agg #[.string r.id, .int .i64 r.status, .int .i64 r.session, .int .i64 r.why, .string r.text]
def mayL (r : Req) : Bool := isIDL r.id && decide (r.text.size ≤ 1200) && (decide (r.kind = 1 ∧ r.session = 0) || decide (r.kind = 2 ∧ 0 < r.session ∧ r.session < 10000))
def mayRepL (r : Rep) : Bool := isIDL r.id && decide (r.text.size ≤ 1000) && (decide (r.status = 1 ∧ r.session = 0 ∧ r.why = 0) || decide (r.status = 2 ∧ r.session = 0 ∧ 0 < r.why ∧ r.why < 1000 ∧ r.text.size = 0) || decide (r.status = 3 ∧ 0 < r.session ∧ r.session < 10000 ∧ r.why = 0))

/-- a way's end: the value that was reckoned is the one that is said -/
theorem say_bool {a b : Bool} (h : a = true ↔ b = true) : Ending.returned (.bool a) = Ending.returned (.bool b) := by rw [Bool.eq_iff_iff.2 h]

set_option maxHeartbeats 4000000 in
theorem net_may (w : World) (r : Req) (h1 : r.id.size ≤ 140737488355328) (h2 : r.text.size ≤ 140737488355328) :
    Calls Tryd.prog 60 #[r.val] w fun e w' => e = .returned (.bool (mayL r)) ∧ Upd Nil w w' := by
  obtain ⟨id, kind, session, text⟩ := r
  dsimp only at h1 h2
  unfold Req.val mayL
  dsimp only
  have H := Lib.hid (fun w => net_IsID w id h1)
  obtain ⟨b, hb⟩ : ∃ b, isIDL id = b := ⟨_, rfl⟩
  rw [hb] at H
  rw [hb]
  clear hb
  obtain ⟨R, hR⟩ : ∃ R, (b && decide (text.size ≤ 1200) && (decide (kind = 1 ∧ session = 0) || decide (kind = 2 ∧ 0 < session ∧ session < 10000))) = R := ⟨_, rfl⟩
  rw [hR]
  have HR := Lib.hid hR
  clear hR
  go_enter Tryd.func60, Tryd.ntmps60
  cases b
  all_goals
    go_wp2_with (go_at_call 31; refine (H.out _).mono ?_; rintro e w' ⟨rfl, rfl⟩)
  all_goals
    go_ret
    refine ⟨say_bool ?_, (Upd.refl Nil w).alloc _⟩
    rw [← HR.out]
    simp only [Bool.and_eq_true, Bool.or_eq_true, decide_eq_true_eq, beq_iff_eq, true_and, Bool.false_eq_true, false_and, false_iff, not_and, true_iff]
  all_goals omega

set_option maxHeartbeats 4000000 in
theorem ref_may (w : World) (r : Req) (h1 : r.id.size ≤ 140737488355328) (h2 : r.text.size ≤ 140737488355328) :
    Calls Tryd.prog 62 #[r.val] w fun e w' => e = .returned (.bool (mayL r)) ∧ Upd Nil w w' := by
  obtain ⟨id, kind, session, text⟩ := r
  dsimp only at h1 h2
  unfold Req.val mayL
  dsimp only
  have H := Lib.hid (fun w => ref_IsID w id h1)
  obtain ⟨b, hb⟩ : ∃ b, isIDL id = b := ⟨_, rfl⟩
  rw [hb] at H
  rw [hb]
  clear hb
  obtain ⟨R, hR⟩ : ∃ R, (b && decide (text.size ≤ 1200) && (decide (kind = 1 ∧ session = 0) || decide (kind = 2 ∧ 0 < session ∧ session < 10000))) = R := ⟨_, rfl⟩
  rw [hR]
  have HR := Lib.hid hR
  clear hR
  go_enter Tryd.func62, Tryd.ntmps62
  cases b
  all_goals
    go_wp2_with (go_at_call 32; refine (H.out _).mono ?_; rintro e w' ⟨rfl, rfl⟩)
  all_goals
    go_ret
    refine ⟨say_bool ?_, (Upd.refl Nil w).alloc _⟩
    rw [← HR.out]
    simp only [Bool.and_eq_true, Bool.or_eq_true, decide_eq_true_eq, beq_iff_eq, true_and, Bool.false_eq_true, false_and, false_iff, not_and, true_iff]
  all_goals omega

set_option maxHeartbeats 4000000 in
theorem net_mayReply (w : World) (r : Rep) (h1 : r.id.size ≤ 140737488355328) (h2 : r.text.size ≤ 140737488355328) :
    Calls Tryd.prog 69 #[r.val] w fun e w' => e = .returned (.bool (mayRepL r)) ∧ Upd Nil w w' := by
  obtain ⟨id, status, session, why, text⟩ := r
  dsimp only at h1 h2
  unfold Rep.val mayRepL
  dsimp only
  have H := Lib.hid (fun w => net_IsID w id h1)
  obtain ⟨b, hb⟩ : ∃ b, isIDL id = b := ⟨_, rfl⟩
  rw [hb] at H
  rw [hb]
  clear hb
  obtain ⟨R, hR⟩ : ∃ R, (b && decide (text.size ≤ 1000) && (decide (status = 1 ∧ session = 0 ∧ why = 0) || decide (status = 2 ∧ session = 0 ∧ 0 < why ∧ why < 1000 ∧ text.size = 0) || decide (status = 3 ∧ 0 < session ∧ session < 10000 ∧ why = 0))) = R := ⟨_, rfl⟩
  rw [hR]
  have HR := Lib.hid hR
  clear hR
  go_enter Tryd.func69, Tryd.ntmps69
  have hE : text.size = 0 ∨ (text.size ≠ 0 ∧ text.toList.isEmpty = false ∧ ¬ text.toList = []) := by
    by_cases h0 : text.size = 0
    · exact .inl h0
    · have hE := size_ne text h0
      exact .inr ⟨h0, hE, fun e => by rw [e] at hE; cases hE⟩
  have hZ : (⟨#[]⟩ : ByteArray).size = 0 := rfl
  have hS : status = 1 ∨ status = 2 ∨ status = 3 ∨ (status ≠ 1 ∧ status ≠ 2 ∧ status ≠ 3 ∧ (status == 1) = false ∧ (status == 2) = false ∧ (status == 3) = false) := by
    simp only [beq_eq_false_iff_ne]
    omega
  rcases hE with h0 | ⟨h0, hE, hN⟩
  case' inl => obtain rfl := size_eq h0
  all_goals rcases hS with rfl | rfl | rfl | ⟨n1, n2, n3, m1, m2, m3⟩
  all_goals cases b
  all_goals
    go_wp2_with (go_at_call 31; refine (H.out _).mono ?_; rintro e w' ⟨rfl, rfl⟩)
  all_goals
    go_ret
    refine ⟨say_bool ?_, (Upd.refl Nil w).alloc _⟩
    rw [← HR.out]
    simp only [Bool.and_eq_true, Bool.or_eq_true, decide_eq_true_eq, beq_iff_eq, true_and, Bool.false_eq_true, false_and, false_iff, not_and, true_iff]
  all_goals omega

set_option maxHeartbeats 4000000 in
theorem ref_mayReply (w : World) (r : Rep) (h1 : r.id.size ≤ 140737488355328) (h2 : r.text.size ≤ 140737488355328) :
    Calls Tryd.prog 70 #[r.val] w fun e w' => e = .returned (.bool (mayRepL r)) ∧ Upd Nil w w' := by
  obtain ⟨id, status, session, why, text⟩ := r
  dsimp only at h1 h2
  unfold Rep.val mayRepL
  dsimp only
  have H := Lib.hid (fun w => ref_IsID w id h1)
  obtain ⟨b, hb⟩ : ∃ b, isIDL id = b := ⟨_, rfl⟩
  rw [hb] at H
  rw [hb]
  clear hb
  obtain ⟨R, hR⟩ : ∃ R, (b && decide (text.size ≤ 1000) && (decide (status = 1 ∧ session = 0 ∧ why = 0) || decide (status = 2 ∧ session = 0 ∧ 0 < why ∧ why < 1000 ∧ text.size = 0) || decide (status = 3 ∧ 0 < session ∧ session < 10000 ∧ why = 0))) = R := ⟨_, rfl⟩
  rw [hR]
  have HR := Lib.hid hR
  clear hR
  go_enter Tryd.func70, Tryd.ntmps70
  have hE : text.size = 0 ∨ (text.size ≠ 0 ∧ text.toList.isEmpty = false ∧ ¬ text.toList = []) := by
    by_cases h0 : text.size = 0
    · exact .inl h0
    · have hE := size_ne text h0
      exact .inr ⟨h0, hE, fun e => by rw [e] at hE; cases hE⟩
  have hZ : (⟨#[]⟩ : ByteArray).size = 0 := rfl
  have hS : status = 1 ∨ status = 2 ∨ status = 3 ∨ (status ≠ 1 ∧ status ≠ 2 ∧ status ≠ 3 ∧ (status == 1) = false ∧ (status == 2) = false ∧ (status == 3) = false) := by
    simp only [beq_eq_false_iff_ne]
    omega
  rcases hE with h0 | ⟨h0, hE, hN⟩
  case' inl => obtain rfl := size_eq h0
  all_goals rcases hS with rfl | rfl | rfl | ⟨n1, n2, n3, m1, m2, m3⟩
  all_goals cases b
  all_goals
    go_wp2_with (go_at_call 32; refine (H.out _).mono ?_; rintro e w' ⟨rfl, rfl⟩)
  all_goals
    go_ret
    refine ⟨say_bool ?_, (Upd.refl Nil w).alloc _⟩
    rw [← HR.out]
    simp only [Bool.and_eq_true, Bool.or_eq_true, decide_eq_true_eq, beq_iff_eq, true_and, Bool.false_eq_true, false_and, false_iff, not_and, true_iff]
  all_goals omega

end Go.Proofs.YtbaombnnagidcaaDoor
