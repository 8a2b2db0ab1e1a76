/- Frames, in plain lists: a number's bytes are read back; no beginning of a frame is one; a byte turned has another sum. -/
import Derived.Test.YtbaombnnagidcaaDoorUnframe
namespace Go.Proofs.YtbaombnnagidcaaDoor
open Go.RowKit

theorem scanR_put : ∀ (k n i acc : Nat) (rest : List UInt8), (putL n).length ≤ k → i + (putL n).length ≤ 9 → (0 < i → 0 < n) → scanR i acc (putL n ++ rest) = (acc + n * 128 ^ i, i + (putL n).length, 0)
  | 0, n, i, acc, rest, hk, _, _ => by have := length_putL_pos n; omega
  | k + 1, n, i, acc, rest, hk, hi, hn => by
    by_cases h : n < 128
    · rw [putL_small h] at hi ⊢
      have ht := toNat_ofNat8 (m := n) (by omega)
      simp only [List.length_cons, List.length_nil] at hi
      rw [List.cons_append, scanR, if_neg (by omega), ht, if_neg (by omega), if_neg (by intro q; have := hn q.2; omega), Nat.mod_eq_of_lt h]
      rfl
    · rw [putL_big h] at hk hi ⊢
      have ht := toNat_ofNat8 (m := n % 128 + 128) (by omega)
      simp only [List.length_cons] at hk hi
      rw [List.cons_append, scanR, if_neg (by omega), ht, if_pos (by omega), scanR_put k (n / 128) (i + 1) _ rest (by omega) (by omega) (fun _ => by omega)]
      have e : (n % 128 + 128) % 128 = n % 128 := by omega
      rw [e, List.length_cons]
      refine Prod.ext ?_ (Prod.ext ?_ rfl)
      · show acc + n % 128 * 128 ^ i + n / 128 * 128 ^ (i + 1) = acc + n * 128 ^ i
        rw [Nat.pow_succ, Nat.mul_comm (128 ^ i) 128, ← Nat.mul_assoc, Nat.add_assoc, ← Nat.add_mul]
        congr 2
        omega
      · show i + 1 + (putL (n / 128)).length = i + ((putL (n / 128)).length + 1)
        omega
theorem scanL_put {n : Nat} (hn : n < 9223372036854775808) (rest : List UInt8) : scanL (putL n ++ rest) = (n, (putL n).length, 0) := by
  have := length_putL hn
  rw [scanL, scanR_put _ n 0 0 rest (Nat.le_refl _) (by omega) (fun h => by omega)]
  simp
theorem scanR_short : ∀ (k n i acc m : Nat), (putL n).length ≤ k → m < (putL n).length → i + m < 9 → (scanR i acc ((putL n).take m)) = (0, 0, 10)
  | 0, n, _, _, _, hk, _, _ => by have := length_putL_pos n; omega
  | k + 1, n, i, acc, m, hk, hm, hi => by
    cases m with
    | zero => rw [List.take_zero, scanR, if_neg (by omega)]
    | succ m =>
      by_cases h : n < 128
      · rw [putL_small h] at hm
        simp at hm
      · rw [putL_big h] at hk hm ⊢
        have ht := toNat_ofNat8 (m := n % 128 + 128) (by omega)
        simp only [List.length_cons] at hk hm
        rw [List.take_succ_cons, scanR, if_neg (by omega), ht, if_pos (by omega)]
        exact scanR_short k (n / 128) (i + 1) _ m (by omega) (by omega) (by omega)

theorem length_frameL (p : List UInt8) : (frameL p).length = (putL p.length).length + p.length + 4 := by rw [frameL, List.length_append, List.length_append, length_fourL]
theorem length_put3 {n : Nat} (h : n ≤ 65536) : (putL n).length ≤ 3 := length_putL_le 2 n (by omega)

/-- no beginning of a frame is one -/
theorem torn_cut {p : List UInt8} (hp : p.length ≤ 65536) {m : Nat} (hm : m < (frameL p).length) : (unframeL ((frameL p).take m)).2.2 ≠ 0 := by
  rw [length_frameL] at hm
  have h3 := length_put3 hp
  by_cases h : m < (putL p.length).length
  · have e : (frameL p).take m = (putL p.length).take m := by
      rw [frameL, List.append_assoc, List.take_append_of_le_length (by omega)]
    have hs : scanL ((putL p.length).take m) = (0, 0, 10) := scanR_short _ p.length 0 0 m (Nat.le_refl _) h (by omega)
    rw [e, unframeL, hs]
    simp
  · obtain ⟨r, hr⟩ : ∃ r, m = (putL p.length).length + r := ⟨m - (putL p.length).length, by omega⟩
    have e : (frameL p).take m = putL p.length ++ (p ++ fourL (sumL p)).take r := by
      rw [frameL, List.append_assoc, hr, List.take_length_add_append]
    rw [e, unframeL, scanL_put (by omega)]
    dsimp only
    rw [if_neg (by decide), if_neg (by omega), List.drop_left, if_pos]
    · decide
    · rw [List.length_take, List.length_append, length_fourL]
      omega

/-! ### a byte turned -/
theorem bitS_inj {a b : Nat} (ha : a < 4294967296) (hb : b < 4294967296) (h : bitS a = bitS b) : a = b := by
  have top : ∀ c, c < 4294967296 → (c / 2 ^^^ 3988292384) / 2147483648 = 1 := fun c hc => by
    have := Nat.xor_div_two_pow (a := c / 2) (b := 3988292384) (n := 31)
    rw [show (2 : Nat) ^ 31 = 2147483648 from rfl] at this
    rw [this, Nat.div_eq_of_lt (by omega), show 3988292384 / 2147483648 = 1 from rfl, Nat.zero_xor]
  unfold bitS at h
  rcases Nat.mod_two_eq_zero_or_one a with h1 | h1 <;> rcases Nat.mod_two_eq_zero_or_one b with h2 | h2
  · rw [if_neg (by omega), if_neg (by omega)] at h
    omega
  · rw [if_neg (by omega), if_pos h2] at h
    have := top b hb
    rw [← h] at this
    omega
  · rw [if_pos h1, if_neg (by omega)] at h
    have := top a ha
    rw [h] at this
    omega
  · rw [if_pos h1, if_pos h2] at h
    have e : a / 2 = b / 2 := by
      have := congrArg (· ^^^ 3988292384) h
      simpa [Nat.xor_assoc] using this
    omega
theorem bitN_inj : ∀ (n : Nat) {a b : Nat}, a < 4294967296 → b < 4294967296 → bitN n a = bitN n b → a = b
  | 0, _, _, _, _, h => h
  | n + 1, _, _, ha, hb, h => bitN_inj n ha hb (bitS_inj (bitN_lt ha n) (bitN_lt hb n) h)
theorem xor_cancel {a b c : Nat} (h : a ^^^ c = b ^^^ c) : a = b := by
  have := congrArg (· ^^^ c) h
  simpa [Nat.xor_assoc] using this
theorem crcFrom_inj : ∀ (l : List UInt8) {a b : Nat}, a < 4294967296 → b < 4294967296 → crcFrom a l = crcFrom b l → a = b
  | [], _, _, _, _, h => h
  | c :: l, a, b, ha, hb, h => by
    have hc : c.toNat < 4294967296 := by have := c.toNat_lt; omega
    have := crcFrom_inj l (stepB_lt ha hc) (stepB_lt hb hc) h
    rw [stepB_bits, stepB_bits] at this
    exact xor_cancel (bitN_inj 8 (xor_lt ha hc) (xor_lt hb hc) this)
theorem crcFrom_append (c : Nat) (l r : List UInt8) : crcFrom c (l ++ r) = crcFrom (crcFrom c l) r := by simp [crcFrom, List.foldl_append]
/-- one with a byte turned has another sum -/
theorem sumL_set {p : List UInt8} {i : Nat} (hi : i < p.length) {y : UInt8} (hy : y ≠ p[i]) : sumL (p.set i y) ≠ sumL p := by
  intro h
  have h := xor_cancel h
  have e1 : p.set i y = p.take i ++ y :: p.drop (i + 1) := by rw [List.set_eq_take_append_cons_drop, if_pos hi]
  have e2 : p = p.take i ++ p[i] :: p.drop (i + 1) := by rw [← List.drop_eq_getElem_cons hi, List.take_append_drop]
  rw [e1] at h
  conv at h => rhs; rw [e2]
  rw [crcFrom_append, crcFrom_append] at h
  have hc := crcFrom_lt (l := p.take i) (c := 4294967295) (by decide)
  have hyl : y.toNat < 4294967296 := by have := y.toNat_lt; omega
  have hpl : (p[i]).toNat < 4294967296 := by have := (p[i]).toNat_lt; omega
  have := crcFrom_inj (p.drop (i + 1)) (stepB_lt hc hyl) (stepB_lt hc hpl) h
  rw [stepB_bits, stepB_bits] at this
  have := bitN_inj 8 (xor_lt hc hyl) (xor_lt hc hpl) this
  rw [Nat.xor_comm, Nat.xor_comm _ (p[i]).toNat] at this
  exact hy (UInt8.toNat_inj.1 (xor_cancel this))

/-- a frame's bytes behind the length, one of them turned: another sum -/
theorem torn_turn {p : List UInt8} (hp : p.length ≤ 65536) {j : Nat} (hj : j < p.length + 4) {y : UInt8} (hy : y ≠ (p ++ fourL (sumL p))[j]'(by rw [List.length_append, length_fourL]; exact hj)) :
    unframeL (putL p.length ++ (p ++ fourL (sumL p)).set j y) = ([], [], 13) := by
  have hl : ((p ++ fourL (sumL p)).set j y).length = p.length + 4 := by rw [List.length_set, List.length_append, length_fourL]
  rw [unframeL, scanL_put (by omega)]
  dsimp only
  rw [if_neg (by decide), if_neg (by omega), List.drop_left, if_neg (by omega), if_neg]
  by_cases h : j < p.length
  · have e1 : (p ++ fourL (sumL p)).set j y = p.set j y ++ fourL (sumL p) := by rw [List.set_append, if_pos h]
    rw [e1, List.take_left' (by simp), List.drop_left' (by simp), List.take_of_length_le (by rw [length_fourL]; exact Nat.le_refl _)]
    intro hc
    rw [List.getElem_append_left h] at hy
    exact sumL_set h hy (fourL_inj (sumL_lt _) (sumL_lt _) hc)
  · have e1 : (p ++ fourL (sumL p)).set j y = p ++ (fourL (sumL p)).set (j - p.length) y := by rw [List.set_append, if_neg h]
    rw [e1, List.take_left, List.drop_left, List.take_of_length_le (by rw [List.length_set, length_fourL]; exact Nat.le_refl _)]
    intro hc
    rw [List.getElem_append_right (by omega)] at hy
    have hq : j - p.length < (fourL (sumL p)).length := by rw [length_fourL]; omega
    have := congrArg (fun l => l[j - p.length]?) hc
    simp only [List.getElem?_set_self hq, List.getElem?_eq_getElem hq, Option.some.injEq] at this
    exact hy this.symm
end Go.Proofs.YtbaombnnagidcaaDoor
