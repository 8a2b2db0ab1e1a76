/- Contracts on slices of slices of bytes: two images compared. -/
import Derived.Test.YtbaombnnagidcaaDoorBytes
namespace Go.Proofs.YtbaombnnagidcaaDoor
open Go.RowKit

/-- Two lists, element by element. -/
def All2 {α : Type} (R : Value → α → Prop) : List Value → List α → Prop
  | [], [] => True
  | v :: vs, x :: xs => R v x ∧ All2 R vs xs
  | _, _ => False
namespace All2
variable {α : Type} {R S : Value → α → Prop}
theorem length : ∀ {vs : List Value} {xs : List α}, All2 R vs xs → vs.length = xs.length
  | [], [], _ => rfl
  | _ :: _, _ :: _, h => by simp [length h.2]
  | [], _ :: _, h => h.elim
  | _ :: _, [], h => h.elim
theorem mono (hR : ∀ v x, R v x → S v x) : ∀ {vs : List Value} {xs : List α}, All2 R vs xs → All2 S vs xs
  | [], [], _ => trivial
  | _ :: _, _ :: _, h => ⟨hR _ _ h.1, mono hR h.2⟩
  | [], _ :: _, h => h.elim
  | _ :: _, [], h => h.elim
theorem append : ∀ {vs : List Value} {xs : List α} {us : List Value} {ys : List α}, All2 R vs xs → All2 R us ys → All2 R (vs ++ us) (xs ++ ys)
  | [], [], _, _, _, k => k
  | _ :: _, _ :: _, _, _, h, k => ⟨h.1, append h.2 k⟩
  | [], _ :: _, _, _, h, _ => h.elim
  | _ :: _, [], _, _, h, _ => h.elim
theorem snoc {vs : List Value} {xs : List α} {v : Value} {x : α} (h : All2 R vs xs) (k : R v x) : All2 R (vs ++ [v]) (xs ++ [x]) := h.append (us := [v]) (ys := [x]) ⟨k, trivial⟩
theorem take : ∀ (n : Nat) {vs : List Value} {xs : List α}, All2 R vs xs → All2 R (vs.take n) (xs.take n)
  | 0, _, _, _ => trivial
  | _ + 1, [], [], _ => trivial
  | n + 1, _ :: _, _ :: _, h => ⟨h.1, take n h.2⟩
  | _ + 1, [], _ :: _, h => h.elim
  | _ + 1, _ :: _, [], h => h.elim
theorem drop : ∀ (n : Nat) {vs : List Value} {xs : List α}, All2 R vs xs → All2 R (vs.drop n) (xs.drop n)
  | 0, _, _, h => h
  | _ + 1, [], [], _ => trivial
  | n + 1, _ :: _, _ :: _, h => drop n h.2
  | _ + 1, [], _ :: _, h => h.elim
  | _ + 1, _ :: _, [], h => h.elim
theorem get : ∀ {vs : List Value} {xs : List α}, All2 R vs xs → ∀ {i : Nat} (hi : i < xs.length), ∃ v, vs[i]? = some v ∧ R v xs[i]
  | v :: _, _ :: _, h, 0, _ => ⟨v, rfl, h.1⟩
  | _ :: _, _ :: xs, h, i + 1, hi => by
    obtain ⟨v, h1, h2⟩ := get (i := i) h.2 (by simpa using hi)
    exact ⟨v, by simpa using h1, by simpa using h2⟩
  | [], [], _, _, hi => by simp at hi
  | [], _ :: _, h, _, _ => h.elim
  | _ :: _, [], h, _, _ => h.elim
theorem set : ∀ {vs : List Value} {xs : List α} {v : Value} {x : α} (i : Nat), All2 R vs xs → R v x → All2 R (vs.set i v) (xs.set i x)
  | [], [], _, _, _, _, _ => trivial
  | _ :: _, _ :: _, _, _, 0, h, k => ⟨k, h.2⟩
  | _ :: _, _ :: _, _, _, i + 1, h, k => ⟨h.1, set i h.2 k⟩
  | [], _ :: _, _, _, _, h, _ => h.elim
  | _ :: _, [], _, _, _, h, _ => h.elim
end All2

/-- The value v is a slice of bytes that reads xs; they lie in a block of E. -/
def Elem (E : Nat → Prop) (w : World) (v : Value) (xs : List UInt8) : Prop :=
  ∃ a c, v = .slice a xs.length c ∧ Row E w a (bvs xs) ∧ (a = none → c = 0) ∧ xs.length ≤ c ∧ c ≤ maxLen
namespace Elem
variable {E E' G : Nat → Prop} {w w' : World} {v : Value} {xs : List UInt8}
theorem mono (h : Elem E w v xs) (hE : ∀ k, E k → E' k) : Elem E' w v xs := by
  obtain ⟨a, c, h1, h2, h3⟩ := h
  exact ⟨a, c, h1, h2.mono hE, h3⟩
theorem upd (h : Elem E w v xs) (u : Upd G w w') (hd : ∀ k, E k → ¬ G k) : Elem E w' v xs := by
  obtain ⟨a, c, h1, h2, h3⟩ := h
  exact ⟨a, c, h1, h2.upd u hd, h3⟩
theorem keep (h : Elem E w v xs) (u : Upd Nil w w') : Elem E w' v xs := h.upd u (fun _ _ f => f)
theorem inHeap (h : Elem E w v xs) : Elem (fun k => E k ∧ k < w.heap.size) w v xs := by
  obtain ⟨a, c, h1, h2, h3⟩ := h
  exact ⟨a, c, h1, h2.inHeap, h3⟩
theorem oneCell (h : Elem E w v xs) : v.oneCell' = true := by
  obtain ⟨a, c, rfl, _⟩ := h
  rfl
end Elem
theorem Own.elem {F : Nat → Prop} {w : World} {t : TypeId} {a : Option Addr} {c : Nat} {xs : List UInt8} (h : Own F w t 1 a xs.length c (bvs xs)) : Elem F w (.slice a xs.length c) xs := by
  refine ⟨a, c, rfl, h.row, fun ha => ?_, h.le.1, h.le.2⟩
  rcases h.2 with ⟨_, _, hc⟩ | ⟨g, _, hg, _⟩
  · exact hc
  · rw [ha] at hg; cases hg

theorem all2_oneCell {E : Nat → Prop} {w : World} : ∀ {vs : List Value} {xss : List (List UInt8)}, All2 (Elem E w) vs xss → ∀ u ∈ vs, u.oneCell' = true
  | [], [], _, _, hu => by cases hu
  | _ :: _, _ :: _, h, u, hu => by
    rcases List.mem_cons.1 hu with rfl | hu
    · exact h.1.oneCell
    · exact all2_oneCell h.2 u hu
  | [], _ :: _, h, _, _ => h.elim
  | _ :: _, [], h, _, _ => h.elim

theorem bytesEqual_yes {F G : Nat → Prop} (w : World) {a b : Option Addr} (c d : Nat) {xs ys : List UInt8} (hx : Row F w a (bvs xs)) (hy : Row G w b (bvs ys)) (h : xs = ys) :
    Calls Tryd.prog 16 #[.slice a xs.length c, .slice b ys.length d] w fun e w' => e = .returned (.bool true) ∧ w = w' :=
  (bytesEqual w c d hx hy).mono fun _ _ ⟨he, hw⟩ => ⟨by rw [he, decide_eq_true h], hw⟩
theorem bytesEqual_no {F G : Nat → Prop} (w : World) {a b : Option Addr} (c d : Nat) {xs ys : List UInt8} (hx : Row F w a (bvs xs)) (hy : Row G w b (bvs ys)) (h : xs ≠ ys) :
    Calls Tryd.prog 16 #[.slice a xs.length c, .slice b ys.length d] w fun e w' => e = .returned (.bool false) ∧ w = w' :=
  (bytesEqual w c d hx hy).mono fun _ _ ⟨he, hw⟩ => ⟨by rw [he, decide_eq_false h], hw⟩

theorem rowAt {F : Nat → Prop} {w : World} {A : Option Addr} {vs : List Value} (h : Row F w A vs) {i : Nat} {v : Value} (hv : vs[i]? = some v) : ∃ b o, A = some ⟨b, o, none⟩ ∧ F b ∧ w.cell? ⟨b, o + i, none⟩ = some v := by
  obtain ⟨b, o, h1, h2, h3⟩ := h (by rintro rfl; simp at hv)
  exact ⟨b, o, h1, h2, h3 i v hv⟩

set_option maxHeartbeats 400000 in
theorem equalFunc {F G E E' : Nat → Prop} (w : World) {A B : Option Addr} (c d : Nat) {vs us : List Value} {xss yss : List (List UInt8)} (hA : Row F w A vs) (hB : Row G w B us)
    (h1 : All2 (Elem E w) vs xss) (h2 : All2 (Elem E' w) us yss) (hn : xss.length ≤ 9223372036854775807) (hm : yss.length ≤ 9223372036854775807) :
    Calls Tryd.prog 84 #[.slice A xss.length c, .slice B yss.length d, .func (.func 16) #[] #[]] w fun e w' => e = .returned (.bool (decide (xss = yss))) ∧ w = w' := by
  have HA := Lib.hid hA
  have HB := Lib.hid hB
  have H1 := Lib.hid h1
  have H2 := Lib.hid h2
  clear hA hB h1 h2
  by_cases hl : xss.length = yss.length
  · have HL := Lib.hid hl
    rw [← hl]
    clear hl
    go_enter Tryd.func84, Tryd.ntmps84
    go_wp2
    go_loopg [17] xss.length (fun k i wr => ∃ j : Nat, j + k = xss.length ∧ i = .int .i64 j ∧ xss.take j = yss.take j ∧ w = wr)
    case atStart => exact ⟨0, by omega, rfl, by simp, rfl⟩
    case round =>
      obtain ⟨j, hjk, rfl, htk, rfl⟩ := hrel
      have hjn : j ≤ xss.length := by omega
      have HJ := Lib.hid hjk
      have HT := Lib.hid htk
      clear hjk htk
      by_cases hlt : j < xss.length
      · have hlt' : j < yss.length := by have := HL.out; omega
        obtain ⟨v, hv, a, ca, rfl, ra, _⟩ := H1.out.get hlt
        obtain ⟨u, hu, b, cb, rfl, rb, _⟩ := H2.out.get hlt'
        obtain ⟨ba, oa, rfl, _, hca⟩ := rowAt HA.out hv
        obtain ⟨bb, ob, rfl, _, hcb⟩ := rowAt HB.out hu
        clear hv hu
        by_cases he : xss[j] = yss[j]
        · have HE := Lib.hid he
          clear he
          go_wp2_with (go_at_call 16; refine (bytesEqual_yes _ _ _ ra rb HE.out).mono ?_; rintro e w' ⟨rfl, rfl⟩)
          go_roundg (gk - 1)
          case measure => have := HJ.out; omega
          case rel =>
            refine ⟨j + 1, by have := HJ.out; omega, by go_num, ?_, rfl⟩
            rw [List.take_succ_eq_append_getElem hlt, List.take_succ_eq_append_getElem hlt', HT.out, HE.out]
        · have HE := Lib.hid he
          clear he
          go_wp2_with (go_at_call 16; refine (bytesEqual_no _ _ _ ra rb HE.out).mono ?_; rintro e w' ⟨rfl, rfl⟩)
          go_ret
          refine ⟨?_, rfl⟩
          show Ending.returned (.bool false) = _
          rw [decide_eq_false]
          rintro rfl
          exact HE.out rfl
      · go_wp2
        go_ret
        refine ⟨?_, rfl⟩
        show Ending.returned (.bool true) = _
        rw [decide_eq_true]
        have hj : j = xss.length := by omega
        have := HT.out
        rw [hj, List.take_length] at this
        rw [this, HL.out, List.take_length]
  · have hl' : ((xss.length : Int) == (yss.length : Int)) = false := by
      rw [beq_eq_false_iff_ne]
      omega
    have hlN : ((xss.length : Int) != (yss.length : Int)) = true := by
      rw [bne_iff_ne]
      omega
    have HL := Lib.hid hl
    clear hl
    go_enter Tryd.func84, Tryd.ntmps84
    go_wp2
    go_ret
    refine ⟨?_, rfl⟩
    show Ending.returned (.bool false) = _
    rw [decide_eq_false]
    rintro rfl
    exact HL.out rfl

theorem sameImage {F G E E' : Nat → Prop} (w : World) {A B : Option Addr} (c d : Nat) {vs us : List Value} {xss yss : List (List UInt8)} (hA : Row F w A vs) (hB : Row G w B us)
    (h1 : All2 (Elem E w) vs xss) (h2 : All2 (Elem E' w) us yss) (hn : xss.length ≤ 9223372036854775807) (hm : yss.length ≤ 9223372036854775807) :
    Calls Tryd.prog 113 #[.slice A xss.length c, .slice B yss.length d] w fun e w' => e = .returned (.bool (decide (xss = yss))) ∧ w = w' := by
  have H := Lib.hid (equalFunc w c d hA hB h1 h2 hn hm)
  clear hA hB h1 h2
  go_enter Tryd.func113, Tryd.ntmps113
  go_wp2_with (go_at_call 84; refine H.out.mono ?_; rintro e w' ⟨rfl, rfl⟩)
  go_ret
  exact ⟨rfl, rfl⟩

theorem zeroBytes (w : World) : (zeroValue 22).run Tryd.prog w = .ok (.slice none 0 0) w := by kernel_rfl

end Go.Proofs.YtbaombnnagidcaaDoor
