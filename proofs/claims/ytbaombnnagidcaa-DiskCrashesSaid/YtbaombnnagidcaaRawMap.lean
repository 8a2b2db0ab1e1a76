/- A map from ints to slices of bytes that the call makes: its elements are what they are; what the last write to a place was. -/
import Derived.Test.YtbaombnnagidcaaSame
import Derived.Test.YtbaombnnagidcaaDiskRead
import Derived.Maps.OwnSet
namespace Go.Proofs.Ytbaombnnagidcaa
open Go.RowKit

/-- an element reads as itself -/
def rawElem (v : Value) : Option (DataW Value × List MemPlace) := some (.held v, [])
def RawMap (w : World) (b n : Nat) (D : DataW Value) : Prop := w.ownsMap Try.prog 3 rawElem b n D
def key (i : Nat) : Lit := .int .i64 (i : Int)
theorem keyedInt : Go.Maps.Keyed Try.prog 3 := Go.Maps.int_keyed Try.underlying3
theorem keyOf_key {i : Nat} (h : i < 1000) : keyOf Try.prog 3 (.int .i64 (i : Int)) = some (key i) :=
  Go.Maps.keyOf_int_mk Try.underlying3 (by simp only [Lit.wf, Bool.and_eq_true, decide_eq_true_eq]; exact ⟨by show (-9223372036854775808 : Int) ≤ i; omega, by show (i : Int) ≤ 9223372036854775807; omega⟩)
theorem key_isKey (i : Nat) : WideAt.IsKeyLit (key i) := trivial
theorem key_ne {i j : Nat} (h : i ≠ j) : key i ≠ key j := by
  intro e
  injection e with _ e
  omega
theorem zeroBytesV (w : World) : (zeroValue 25).run Try.prog w = .ok (.slice none 0 0) w := by kernel_rfl

theorem RawMap.made (w : World) : RawMap (w.alloc (.map #[] 0)) w.heap.size 0 (.map []) := World.ownsMap_made _ _ _ _
theorem RawMap.upd {G : Nat → Prop} {w w' : World} {b n : Nat} {D : DataW Value} (h : RawMap w b n D) (u : Upd G w w') (hb : ¬ G b) : RawMap w' b n D := by
  obtain ⟨es, clock, h1, h2⟩ := h
  exact ⟨es, clock, u.heap h1 hb, h2⟩

/-- the last of l's writes to place i -/
def lastOf (l : List Snt) (i : Nat) : Option (List UInt8) := (l.reverse.find? (fun p => p.1 == i)).map (·.2)
theorem lastOf_snoc (l : List Snt) (p : Snt) (i : Nat) : lastOf (l ++ [p]) i = if p.1 = i then some p.2 else lastOf l i := by
  simp only [lastOf, List.reverse_append, List.reverse_cons, List.reverse_nil, List.nil_append, List.singleton_append, List.find?_cons]
  by_cases h : p.1 = i
  · simp [h]
  · have : (p.1 == i) = false := by simpa using h
    simp [h, this]
theorem readOf_eq (B : List (List UInt8)) (P : List Snt) (i : Nat) (hi : i < B.length) : readOf B P i hi = (lastOf P i).getD B[i] := rfl

/-- the map holds just the last writes of l -/
def Lasts (E : Nat → Prop) (w : World) (D : DataW Value) (l : List Snt) : Prop :=
  Go.Maps.IsMap D ∧ ∀ i : Nat, match lastOf l i with
    | none => Go.Maps.has D (key i) = false
    | some xs => Go.Maps.has D (key i) = true ∧ ∃ v, (∀ z, D.atKey (key i) z = .held v) ∧ Elem E w v xs
theorem Lasts.start (E : Nat → Prop) (w : World) : Lasts E w (.map []) [] := ⟨Go.Maps.isMap_empty, fun _ => rfl⟩
theorem Lasts.upd {E G : Nat → Prop} {w w' : World} {D : DataW Value} {l : List Snt} (h : Lasts E w D l) (u : Upd G w w') (hd : ∀ k, E k → ¬ G k) : Lasts E w' D l := by
  refine ⟨h.1, fun i => ?_⟩
  have := h.2 i
  split at this
  · exact this
  · obtain ⟨h1, v, h2, h3⟩ := this
    exact ⟨h1, v, h2, h3.upd u hd⟩
theorem Lasts.put {E : Nat → Prop} {w : World} {D : DataW Value} {l : List Snt} {s : Nat} {xs : List UInt8} {v : Value} (h : Lasts E w D l) (hv : Elem E w v xs) : Lasts E w (D.put (key s) (.held v)) (l ++ [(s, xs)]) := by
  refine ⟨h.1.put _ _, fun i => ?_⟩
  rw [lastOf_snoc]
  by_cases e : s = i
  · subst e
    rw [if_pos rfl]
    exact ⟨Go.Maps.has_put_same h.1 (key_isKey s) _, v, fun z => Go.Maps.atKey_put_same h.1 (key_isKey s) _ z, hv⟩
  · rw [if_neg e]
    have := h.2 i
    have hne : key i ≠ key s := key_ne (fun x => e x.symm)
    split at this
    · rw [Go.Maps.has_put_other hne]
      exact this
    · obtain ⟨h1, u, h2, h3⟩ := this
      exact ⟨by rw [Go.Maps.has_put_other hne]; exact h1, u, fun z => by rw [Go.Maps.atKey_put_other hne]; exact h2 z, h3⟩

section
variable (w : World) {ops : Array Oper} {rest : List Oper} {o : Oper} {a : Act} {Q : Exit → Act → World → Prop}

theorem wpList_put_raw (hg : o.guard = none) (m x v : Operand) (hop : o.op = Op.mapUpdate 84 m x v) {b n : Nat} {D : DataW Value}
    (hm : a.eval m = .map (some b)) (hown : RawMap w b n D) (hn : n < maxLen) {i : Nat} (hi : i < 1000) {val : Value} (hx : a.eval x = .int .i64 i) (hv : a.eval v = val)
    (hK : ∀ w', RawMap w' b (n + 1) (D.put (key i) (.held val)) → Upd (One b) w w' → wpList Try.prog ops Q rest (a.put o.dst undef) w') :
    wpList Try.prog ops Q (o :: rest) a w :=
  wpList_mapUpdate_own w hg m x v _ hop _ _ keyedInt Try.underlying84 rawElem b n D hm hown hn _ val _ hx hv (keyOf_key hi) (.held val) [] rfl
    (fun w' h1 h2 => hK w' h1 (Upd.ofGrown h2 (fun k hk => by injection hk with hk; exact .inl hk.symm)))

theorem wpList_look_raw_yes (hg : o.guard = none) (m x : Operand) (hop : o.op = Op.lookup 84 m x true) {b n : Nat} {D : DataW Value}
    (hm : a.eval m = .map (some b)) (hown : RawMap w b n D) {i : Nat} (hi : i < 1000) (hx : a.eval x = .int .i64 i) {v0 : Value} (hhas : Go.Maps.has D (key i) = true) (hat : ∀ z, D.atKey (key i) z = .held v0)
    (hK : wpList Try.prog ops Q rest (a.put o.dst (.tuple #[v0, .bool true])) w) :
    wpList Try.prog ops Q (o :: rest) a w :=
  wpList_lookup_own_ok w hg m x _ hop _ _ keyedInt Try.underlying84 rawElem (zeroBytesV w) (.held (.slice none 0 0)) [] rfl b n D hm hown _ _ hx (keyOf_key hi) (fun v ps hv => by
    rw [hat] at hv
    have e : v = v0 := by
      have := congrArg (Option.map Prod.fst) hv
      simpa [rawElem] using this
    rw [e, hhas]
    exact hK)

theorem wpList_look_raw_no (hg : o.guard = none) (m x : Operand) (hop : o.op = Op.lookup 84 m x true) {b n : Nat} {D : DataW Value}
    (hm : a.eval m = .map (some b)) (hown : RawMap w b n D) {i : Nat} (hi : i < 1000) (hx : a.eval x = .int .i64 i) (hhas : Go.Maps.has D (key i) = false)
    (hK : wpList Try.prog ops Q rest (a.put o.dst (.tuple #[.slice none 0 0, .bool false])) w) :
    wpList Try.prog ops Q (o :: rest) a w :=
  wpList_lookup_own_ok w hg m x _ hop _ _ keyedInt Try.underlying84 rawElem (zeroBytesV w) (.held (.slice none 0 0)) [] rfl b n D hm hown _ _ hx (keyOf_key hi) (fun v ps hv => by
    rw [Go.Maps.atKey_of_not_has hhas] at hv
    have e : v = .slice none 0 0 := by
      have := congrArg (Option.map Prod.fst) hv
      simpa [rawElem] using this
    rw [e, hhas]
    exact hK)
end
end Go.Proofs.Ytbaombnnagidcaa
