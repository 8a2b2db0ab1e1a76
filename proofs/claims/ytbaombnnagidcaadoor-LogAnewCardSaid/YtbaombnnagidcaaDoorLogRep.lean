/- The log in memory: of the program and of the document: eight cells and a stream. -/
import Derived.Test.YtbaombnnagidcaaDoorLogPure
import Derived.Test.YtbaombnnagidcaaDoorMsg
import Derived.ArgAppend
namespace Go.Proofs.YtbaombnnagidcaaDoor
open Go.RowKit

/-- a slice of bytes that an append may be laid behind: a row of its own, or one whose capacity is spent -/
def Held (g : Bool) (R : Nat → Prop) (w : World) (a : Option Addr) (c : Nat) (xs : List UInt8) : Prop :=
  Row R w a (bvs xs) ∧ (a = none → c = 0) ∧ xs.length ≤ c ∧ c ≤ maxLen ∧ (g = true → Own R w 5 1 a xs.length c (bvs xs) ∨ c = xs.length)
namespace Held
variable {g : Bool} {R R' G : Nat → Prop} {w w' : World} {a : Option Addr} {c : Nat} {xs : List UInt8}
theorem upd (h : Held g R w a c xs) (u : Upd G w w') (hd : ∀ k, R k → ¬ G k) : Held g R w' a c xs :=
  ⟨h.1.upd u hd, h.2.1, h.2.2.1, h.2.2.2.1, fun e => (h.2.2.2.2 e).elim (fun q => .inl (q.upd u hd)) .inr⟩
theorem mono (h : Held g R w a c xs) (hR : ∀ k, R k → R' k) : Held g R' w a c xs :=
  ⟨h.1.mono hR, h.2.1, h.2.2.1, h.2.2.2.1, fun e => (h.2.2.2.2 e).elim (fun q => .inl (q.mono hR)) .inr⟩
theorem none_ (g : Bool) (w : World) : Held g Nil w none 0 [] := ⟨Row.nil _ _ _, fun _ => rfl, Nat.le_refl _, Nat.zero_le _, fun _ => .inr rfl⟩
theorem own (h : Own R w 5 1 a xs.length c (bvs xs)) : Held g R w a c xs := ⟨h.row, h.noneCap, h.le.1, h.le.2, fun _ => .inl h⟩
/-- s[:n:n] of a row of one's own -/
theorem cut (h : Row R w a (bvs xs)) (hc : xs.length ≤ maxLen) (ha : a = none → xs.length = 0) : Held g R w a xs.length xs := ⟨h, ha, Nat.le_refl _, hc, fun _ => .inr rfl⟩
end Held

section
variable {P : Program}
theorem wpList_append_Held {ops : Array Oper} {rest : List Oper} {o : Oper} {act : Act} {Q : Exit → Act → World → Prop} {R G : Nat → Prop} {w : World} (hgd : o.guard = none) (s x : Operand) (ts : TypeId)
    (ho : o.op = .call { callee := .builtin .append, args := #[s, x], argTypes := #[ts, ts] })
    {i : TypeInfo} {a : Option Addr} {c n m : Nat} {xs ys : List UInt8} (ht : P.underlying ts = some (.slice 5)) (hi : P.info? 5 = some i) (hz : i.zero = some (.int .u8 0)) (hsize : i.size = 1) (hby : i.bytes = 1)
    (hs : act.eval s = .slice a n c) (hn : xs.length = n) (h : Held true R w a c xs)
    {A : Option Addr} {d : Nat} (hx : act.eval x = .slice A m d) (hm : ys.length = m) (hr : Row G w A (bvs ys)) (h0 : ys ≠ []) (hlen : xs.length + ys.length ≤ 140737488355328)
    (K : ∀ a' c' w', Own (fun k => R k ∨ Fr w w' k) w' 5 1 a' (xs ++ ys).length c' (bvs (xs ++ ys)) → Upd R w w' → wpList P ops Q rest (act.put o.dst (.slice a' (xs ++ ys).length c')) w') : wpList P ops Q (o :: rest) act w := by
  subst hn; subst hm
  have hml : xs.length + ys.length ≤ maxLen := by simp only [maxLen]; omega
  obtain ⟨b, q, rfl, _, hcell⟩ := hr (by intro e; exact h0 (by cases ys with | nil => rfl | cons _ _ => simp [bvs] at e))
  have e0 : (xs ++ ys).length = xs.length + ys.length := List.length_append
  rw [e0, bvs_append] at K
  rcases h.2.2.2.2 rfl with ho' | hc
  · refine wpList_append_Own hgd s x ts ho ht hi hz hsize hby rfl (by decide) hs ho' hx (R := G) (fun _ => ⟨b, q, rfl, by assumption, hcell⟩) (by rw [length_bvs, Nat.mul_one]) (bvs_one ys) (fun e => by cases e) hml (by omega) ?_
    intro a' c' w' g1 g2 _
    exact K a' c' w' g1 g2
  · cases a with
    | none =>
      have hx0 : xs = [] := List.eq_nil_of_length_eq_zero (by have := h.2.1 rfl; omega)
      subst hx0
      have hc0 : c = 0 := h.2.1 rfl
      subst hc0
      refine wpList_append_Own hgd s x ts ho ht hi hz hsize hby rfl (by decide) hs (Own.none_ R w 5 1) hx (R := G) (fun _ => ⟨b, q, rfl, by assumption, hcell⟩) (by rw [length_bvs, Nat.mul_one]) (bvs_one ys) (fun e => by cases e) (by simpa using hml) (by simpa using hlen) ?_
      intro a' c' w' g1 g2 _
      exact K a' c' w' (by simpa [bvs] using g1) g2
    | some ad =>
      refine wpList_plain hgd fun K' hK' => ?_
      have holds : ∀ j u, (bvs xs)[j]? = some u → w.cell? (ad.add j) = some u := by
        intro j u hj
        obtain ⟨b', o', e, _, hc'⟩ := h.1 (by rintro e; rw [e] at hj; cases hj)
        injection e with e
        subst e
        rw [Addr.add_lit]
        exact hc' j u hj
      have hpos : 0 < ys.length := List.length_pos_iff.2 h0
      obtain ⟨v', w', hrun, r1, r2⟩ := run_append_arg_grows (P := P) w ts o.type 5 i (.int .u8 0) 1 1 ht hi hz hsize hby rfl (by decide) ad xs.length c (bvs xs) (by rw [length_bvs, Nat.mul_one]) holds ⟨b, q, none⟩ ys.length d (bvs ys) (by rw [length_bvs, Nat.mul_one]) (fun j u hj => by rw [Addr.add_lit]; exact hcell j u hj) (by omega) hml (by omega)
      obtain ⟨a', c', rfl, hown⟩ := Own.ofRow (F := fun k => w.heap.size ≤ k) (by
        have := r1
        rcases this with ⟨q1, q2⟩
        exact ⟨q1, q2.imp id (fun ⟨g, cap, cur, e1, _, e3⟩ => ⟨g, cap, cur, e1, Nat.zero_le _, e3⟩)⟩) (fun k hk => (r1.lt k hk).1)
      have hup : Upd R w w' := Upd.ofGrown r2 (fun k hk => by cases hk)
      unfold Oper.wp execOp
      simp only [ho, resolve, invoke, builtin, Sem.run_bind, Sem.run_pure, Result.andThen_ok, List.map_toArray, List.map_cons, List.map_nil, hs, hx, hrun]
      exact hK' _ _ (K a' c' w' (hown.inHeap.mono (fun k hk => .inr ⟨hk.1, hk.2⟩)) hup)
end

def logCells (d : Nat) (S : LogS) (a : Option Addr) (c : Nat) : Array Value :=
  #[.pointer (some ⟨d, 0, none⟩), .int .i64 (S.fr : Int), .int .i64 (S.sectors : Int), .int .i64 (S.first : Int), .int .i64 (S.last : Int), .int .i64 (S.forced : Int), .slice a S.stream.length c, .int .i64 (S.durable : Int)]
/-- At block s lies a log over the disk at block d: of type t (the program's or the document's). -/
def LRep (t : TypeId) (g : Bool) (F : Nat → Prop) (w : World) (s d : Nat) (S : LogS) : Prop :=
  ∃ (R : Nat → Prop) (a : Option Addr) (c : Nat), F s ∧ (∀ k, R k → F k ∧ k ≠ s ∧ k < w.heap.size) ∧ Blk w s t (logCells d S a c) ∧ Held g R w a c S.stream
theorem LRep.upd {t : TypeId} {g : Bool} {F G : Nat → Prop} {w w' : World} {s d : Nat} {S : LogS} (h : LRep t g F w s d S) (u : Upd G w w') (hd : ∀ k, F k → ¬ G k) : LRep t g F w' s d S := by
  obtain ⟨R, a, c, h1, h2, h3, h4⟩ := h
  exact ⟨R, a, c, h1, fun k hk => ⟨(h2 k hk).1, (h2 k hk).2.1, Nat.lt_of_lt_of_le (h2 k hk).2.2 u.size⟩, h3.upd u (hd _ h1), h4.upd u (fun k hk => hd k (h2 k hk).1)⟩
theorem LRep.keep {t : TypeId} {g : Bool} {F : Nat → Prop} {w w' : World} {s d : Nat} {S : LogS} (h : LRep t g F w s d S) (u : Upd Nil w w') : LRep t g F w' s d S := h.upd u (fun _ _ f => f)
theorem LRep.mono {t : TypeId} {g : Bool} {F F' : Nat → Prop} {w : World} {s d : Nat} {S : LogS} (h : LRep t g F w s d S) (hF : ∀ k, F k → F' k) : LRep t g F' w s d S := by
  obtain ⟨R, a, c, h1, h2, h3⟩ := h
  exact ⟨R, a, c, hF _ h1, fun k hk => ⟨hF _ (h2 k hk).1, (h2 k hk).2⟩, h3⟩
/-- what a call that turns the log alone leaves -/
def LGot (t : TypeId) (g : Bool) (F : Nat → Prop) (w : World) (s d : Nat) (v : Value) (S : LogS) (e : Ending) (w' : World) : Prop :=
  e = .returned v ∧ ∃ F', LRep t g F' w' s d S ∧ Upd F w w' ∧ ∀ k, F' k → F k ∨ Fr w w' k
theorem LGot.same {t : TypeId} {g : Bool} {F : Nat → Prop} {w w' : World} {s d : Nat} {v : Value} {S : LogS} (h : LRep t g F w s d S) (u : Upd Nil w w') : LGot t g F w s d v S (.returned v) w' :=
  ⟨rfl, F, h.keep u, u.ofNil, fun _ hk => .inl hk⟩
end Go.Proofs.YtbaombnnagidcaaDoor
