/- What the arguments of a law read as: bytes, slices of bytes, numbers, bools. Over any program. -/
import Derived.Test.YtbaombnnagidcaaDoorImage
import Derived.Lib.SmallJoins
import Derived.Deep.Strs
namespace Go.Proofs.YtbaombnnagidcaaDoor
open Go.RowKit Go.Deep Go.WideShapes Go.ChangeShapes

/-- the blocks of w -/
def Old (w : World) : Nat → Prop := fun k => k < w.heap.size

/-- The form's own reach, of one datum: each string, slice and map in it. -/
def Fit {H : Type} (P : Program) (t : TypeId) (d : DataW H) : Prop := ∀ n ∈ d.weights P t, n ≤ reachBytes
theorem Fit.ofEach {H : Type} {P : Program} {ts : List TypeId} {ds : List (DataW H)} (h : (DataW.weightsEach P ts ds).all (· ≤ reachBytes) = true) {j : Nat} {t : TypeId} {d : DataW H} (ht : ts[j]? = some t) (hd : ds[j]? = some d) : Fit P t d := by
  intro n hn
  have := List.all_eq_true.1 h n (DataW.weights_mem_each ht hd n hn)
  simpa using this
theorem weights_all {H : Type} {P : Program} {e : TypeId} : ∀ {l : List (DataW H)} {d : DataW H}, d ∈ l → ∀ n ∈ d.weights P e, n ∈ DataW.weightsAll P e l
  | x :: l, d, hd, n, hn => by
    simp only [DataW.weightsAll, List.mem_append]
    rcases List.mem_cons.1 hd with rfl | hd
    · exact .inl hn
    · exact .inr (weights_all hd n hn)
theorem Fit.slice {H : Type} {P : Program} {t e : TypeId} {es sp : List (DataW H)} (h : Fit P t (.slice es sp)) (ht : P.underlying t = some (.slice e)) : (es.length + sp.length) * P.bytesOf e ≤ reachBytes ∧ ∀ d ∈ es, Fit P e d := by
  refine ⟨h _ (by simp [DataW.weights, ht]), fun d hd n hn => h n ?_⟩
  simp only [DataW.weights, ht, List.mem_cons, List.mem_append]
  exact .inr (.inl (weights_all hd n hn))
theorem Fit.struct {H : Type} {P : Program} {t : TypeId} {fs : Array Field} {parts : List (DataW H)} (h : Fit P t (.agg parts)) (ht : P.underlying t = some (.struct fs)) {j : Nat} {f : Field} {d : DataW H} (hf : fs.toList[j]? = some f) (hd : parts[j]? = some d) : Fit P f.type d := by
  intro n hn
  refine h n ?_
  simp only [DataW.weights, ht]
  exact DataW.weights_mem_each (ts := fs.toList.map (·.type)) (by simp [hf]) hd n hn

section
variable {H : Type} {enc : TypeId × Value → H} {P : Program} {w : World} {spare : Nat → Bool} {held : Bool}

theorem plain_of_cell {a : Addr} {v : Value} (h : w.cell? a = some v) : a = ⟨a.block, a.off, none⟩ := by
  unfold World.cell? at h
  split at h
  · split at h
    · cases h
    · rename_i hs
      cases a with
      | mk b o s => cases s with
        | none => rfl
        | some _ => simp at hs
  · cases h

/-- an address at which a first element lies is plain -/
theorem plain_base {base : Nat} {a : Addr} {k : Nat} {cs : List Value} (hk : 0 < k) (h : w.cells? base (a.add (0 * k)) k = some cs) : ∃ b o, a = ⟨b, o, none⟩ := by
  obtain ⟨_, hl, hc⟩ := World.cells?_some h
  have h0 := hc 0 hk
  rw [Nat.zero_mul] at h0
  have e : (a.add 0).add 0 = a := by simp [Addr.add]
  rw [e, List.getElem?_eq_getElem (by omega)] at h0
  exact ⟨a.block, a.off, plain_of_cell h0⟩

theorem range_get {α : Type} (f : Nat → α) {n i : Nat} {u : α} (h : ((List.range n).map f)[i]? = some u) : i < n ∧ u = f i := by
  have hi : i < n := by
    have := (List.getElem?_eq_some_iff.1 h).1
    simpa using this
  refine ⟨hi, ?_⟩
  simp [hi] at h
  exact h.symm

theorem All2.ofRange {α : Type} {R : Value → α → Prop} (f : Nat → Value) (g : Nat → α) : ∀ {n : Nat}, (∀ i, i < n → R (f i) (g i)) → All2 R ((List.range n).map f) ((List.range n).map g)
  | 0, _ => trivial
  | n + 1, h => by
    rw [List.range_succ, List.map_append, List.map_append]
    exact (All2.ofRange f g (fun i hi => h i (by omega))).append ⟨h n (by omega), trivial⟩

/-- a slice whose elements are one cell each, by an index -/
theorem open_cells {t e : TypeId} {fuel : Nat} {cs : List Value} {x : DataW H × List MemPlace} (ht : P.underlying t = some (.slice e)) (hc : P.cellsOf e = 1) (h : DataW.trod enc P w 0 spare held fuel t cs = some x) :
    ∃ (a : Option Addr) (n c m : Nat) (V : Nat → Value) (D : Nat → DataW H), cs = [.slice a n c] ∧ n ≤ c ∧ c ≤ maxLen ∧ (a = none → c = 0) ∧ Row (Old w) w a ((List.range n).map V) ∧
      (∀ i, i < n → ∃ pl, DataW.trod enc P w 0 spare held m e [V i] = some (D i, pl)) ∧ (x.1 = .nil ∧ n = 0 ∨ ∃ sp, x.1 = .slice ((List.range n).map D) sp) := by
  rcases open_slice1 ht hc h with ⟨rfl, rfl⟩ | ⟨a, n, c, m, k, V, D, Pl, rfl, _, hl, hm, hmm, rfl, hx⟩
  · exact ⟨none, 0, 0, 0, fun _ => undef, fun _ => .nil, rfl, Nat.le_refl _, Nat.zero_le _, fun _ => rfl, Row.nil _ _ _, fun i hi => absurd hi (Nat.not_lt_zero i), .inl ⟨rfl, rfl⟩⟩
  · have hnm : n ≤ m := by rw [hmm]; split <;> omega
    refine ⟨some a, n, c, k, V, D, rfl, hl, hm, (fun h => by cases h), fun hn => ?_, fun i hi => ⟨_, (hx i (by omega)).2⟩, .inr ⟨_, rfl⟩⟩
    have hpos : 0 < n := by
      rcases Nat.eq_zero_or_pos n with h0 | h0
      · subst h0
        exact absurd rfl hn
      · exact h0
    have h0 := (hx 0 (by omega)).1
    have ha0 : a.add 0 = a := by cases a; simp [Addr.add]
    rw [ha0] at h0
    have hp := plain_of_cell h0
    refine ⟨a.block, a.off, by rw [← hp], World.block_lt_of_cell? w a h0, fun i u hu => ?_⟩
    obtain ⟨hi, rfl⟩ := range_get V hu
    have := (hx i (by omega)).1
    rw [hp, Addr.add_lit] at this
    exact this

theorem trod_int_inv {t : TypeId} {k : IntKind} {fuel : Nat} {v : Value} {d : DataW H} {pl : List MemPlace} (ht : P.underlying t = some (.int k)) (h : DataW.trod enc P w 0 spare held fuel t [v] = some (d, pl)) :
    ∃ n, v = .int k n ∧ (Lit.int k n).wf = true ∧ d = .lit (.int k n) := by
  obtain ⟨n, h1, h2, h3⟩ := DataW.trod_int ht h
  injection h1 with h1
  injection h2 with h2
  exact ⟨n, h1, h3, h2⟩

theorem u8_of_wf {n : Int} (h : (Lit.int .u8 n).wf = true) : n = ((UInt8.ofNat n.toNat).toNat : Int) := by
  simp only [Lit.wf, Bool.and_eq_true, decide_eq_true_eq] at h
  have h1 : (0 : Int) ≤ n := h.1
  have h2 : n ≤ 255 := h.2
  simp
  omega

/-- a slice of bytes -/
theorem open_bytes {t e : TypeId} {fuel : Nat} {cs : List Value} {x : DataW H × List MemPlace} (ht : P.underlying t = some (.slice e)) (he : P.underlying e = some (.int .u8)) (hc : P.cellsOf e = 1)
    (h : DataW.trod enc P w 0 spare held fuel t cs = some x) (hb : P.bytesOf e = 1) (hfit : Fit P t x.1) : ∃ v xs, cs = [v] ∧ Elem (Old w) w v xs ∧ xs.length ≤ reachBytes ∧ (x.1 = .nil ∧ xs = [] ∨ ∃ es sp, x.1 = .slice es sp ∧ es.length = xs.length) := by
  obtain ⟨a, n, c, m, V, D, rfl, h1, h2, h3, h4, h5, h6⟩ := open_cells ht hc h
  have each : ∀ i, i < n → ∃ b : UInt8, V i = bv b := fun i hi => by
    obtain ⟨pl, hp⟩ := h5 i hi
    obtain ⟨z, hz, hw, _⟩ := trod_int_inv he hp
    refine ⟨UInt8.ofNat z.toNat, ?_⟩
    rw [hz, bv, ← u8_of_wf hw]
  obtain ⟨f, hf⟩ := choose_lt each
  have hl : ((List.range n).map f).length = n := by simp
  have hbv : bvs ((List.range n).map f) = (List.range n).map V := by
    rw [bvs, List.map_map]
    exact List.map_congr_left fun i hi => (hf i (List.mem_range.1 hi)).symm
  refine ⟨_, (List.range n).map f, rfl, ⟨a, c, by rw [hl], by rw [hbv]; exact h4, h3, by rw [hl]; exact h1, h2⟩, ?_, ?_⟩
  · rw [hl]
    rcases h6 with ⟨_, rfl⟩ | ⟨sp, h6⟩
    · exact Nat.zero_le _
    · rw [h6] at hfit
      have := (hfit.slice ht).1
      rw [hb, Nat.mul_one] at this
      simp at this
      omega
  rcases h6 with ⟨h6, rfl⟩ | ⟨sp, h6⟩
  · exact .inl ⟨h6, rfl⟩
  · exact .inr ⟨_, sp, h6, by simp⟩

/-- a slice of slices of bytes -/
theorem open_rows {t e q : TypeId} {fuel : Nat} {cs : List Value} {x : DataW H × List MemPlace} (ht : P.underlying t = some (.slice e)) (he : P.underlying e = some (.slice q)) (hq : P.underlying q = some (.int .u8)) (hc : P.cellsOf e = 1) (hcq : P.cellsOf q = 1)
    (h : DataW.trod enc P w 0 spare held fuel t cs = some x) (hb : P.bytesOf q = 1) (hfit : Fit P t x.1) :
    ∃ a n c vs xss, cs = [.slice a n c] ∧ n ≤ c ∧ c ≤ maxLen ∧ (a = none → c = 0) ∧ Row (Old w) w a vs ∧ All2 (Elem (Old w) w) vs xss ∧ xss.length = n ∧ n * P.bytesOf e ≤ reachBytes ∧ ∀ xs ∈ xss, xs.length ≤ reachBytes := by
  obtain ⟨a, n, c, m, V, D, rfl, h1, h2, h3, h4, h5, h6⟩ := open_cells ht hc h
  have hf : n * P.bytesOf e ≤ reachBytes ∧ ∀ i, i < n → Fit P e (D i) := by
    rcases h6 with ⟨_, rfl⟩ | ⟨sp, h6⟩
    · exact ⟨by rw [Nat.zero_mul]; exact Nat.zero_le _, fun i hi => absurd hi (Nat.not_lt_zero i)⟩
    · rw [h6] at hfit
      obtain ⟨g1, g2⟩ := hfit.slice ht
      refine ⟨Nat.le_trans (Nat.mul_le_mul_right _ (by simp)) g1, fun i hi => g2 _ (List.mem_map.2 ⟨i, List.mem_range.2 hi, rfl⟩)⟩
  have each : ∀ i, i < n → ∃ xs, Elem (Old w) w (V i) xs ∧ xs.length ≤ reachBytes := fun i hi => by
    obtain ⟨pl, hp⟩ := h5 i hi
    obtain ⟨v, xs, hv, hel, hx, _⟩ := open_bytes he hq hcq hp hb (hf.2 i hi)
    injection hv with hv
    exact ⟨xs, hv ▸ hel, hx⟩
  obtain ⟨f, hff⟩ := choose_lt each
  refine ⟨a, n, c, _, (List.range n).map f, rfl, h1, h2, h3, h4, All2.ofRange V f (fun i hi => (hff i hi).1), by simp, hf.1, fun xs hxs => ?_⟩
  obtain ⟨i, hi, rfl⟩ := List.mem_map.1 hxs
  exact (hff i (List.mem_range.1 hi)).2
end
end Go.Proofs.YtbaombnnagidcaaDoor
