/- The check sum: the program's table of half bytes, the document's bits. -/
import Derived.Test.YtbaombnnagidcaaDoorWire
namespace Go.Proofs.YtbaombnnagidcaaDoor
open Go.RowKit

def tab16 : List Nat := [0, 498536548, 997073096, 651767980, 1994146192, 1802195444, 1303535960, 1342533948, 3988292384, 4027552580, 3604390888, 3412177804, 2607071920, 2262029012, 2685067896, 3183342108]
/-- the table lies in the variable's block -/
def Tab (w : World) : Prop := ∀ i, i < 16 → w.cell? ⟨0, i, none⟩ = some (.int .u32 ((tab16.getD i 0 : Nat) : Int))
theorem Tab.upd {G : Nat → Prop} {w w' : World} (h : Tab w) (u : Upd G w w') (hG : ¬ G 0) : Tab w' := fun i hi => u.cell (h i hi) hG

/-- half a byte -/
def half (c : Nat) : Nat := tab16.getD (c &&& 15) 0 ^^^ (c / 16)
/-- a byte -/
def stepB (c b : Nat) : Nat := half (half (c ^^^ b))
def crcFrom (c : Nat) (l : List UInt8) : Nat := l.foldl (fun c b => stepB c b.toNat) c
def sumL (l : List UInt8) : Nat := crcFrom 4294967295 l ^^^ 4294967295

theorem tab16_lt {i : Nat} (h : i < 16) : tab16.getD i 0 < 4294967296 := by
  have : ∀ i : Fin 16, tab16.getD i.1 0 < 4294967296 := by decide +kernel
  exact this ⟨i, h⟩
theorem and15_lt (c : Nat) : c &&& 15 < 16 := Nat.lt_of_le_of_lt Nat.and_le_right (by decide)
theorem xor_lt {a b : Nat} (ha : a < 4294967296) (hb : b < 4294967296) : a ^^^ b < 4294967296 := Nat.xor_lt_two_pow (n := 32) ha hb
theorem half_lt {c : Nat} (h : c < 4294967296) : half c < 4294967296 := xor_lt (tab16_lt (and15_lt c)) (by omega)
theorem stepB_lt {c b : Nat} (hc : c < 4294967296) (hb : b < 4294967296) : stepB c b < 4294967296 := half_lt (half_lt (xor_lt hc hb))
theorem crcFrom_lt : ∀ {l : List UInt8} {c : Nat}, c < 4294967296 → crcFrom c l < 4294967296
  | [], _, h => h
  | b :: l, _, h => crcFrom_lt (l := l) (stepB_lt h (by have := b.toNat_lt; omega))
theorem sumL_lt (l : List UInt8) : sumL l < 4294967296 := xor_lt (crcFrom_lt (by decide)) (by decide)

theorem wire_Sum {F : Nat → Prop} (w : World) {a : Option Addr} (c : Nat) {xs : List UInt8} (hr : Row F w a (bvs xs)) (hx : xs.length ≤ 9223372036854775807) (ht : Tab w) :
    Calls Tryd.prog 19 #[.slice a xs.length c] w fun e w' => e = .returned (.int .u32 ((sumL xs : Nat) : Int)) ∧ w = w' := by
  have HR := Lib.hid hr
  have HT := Lib.hid ht
  clear hr ht
  go_enter Tryd.func19, Tryd.ntmps19
  go_wp2
  go_loopg [3, 8] xs.length (fun k v i wr => ∃ j c : Nat, j + k = xs.length ∧ i = .int .i64 j ∧ v = .int .u32 (c : Int) ∧ c = crcFrom 4294967295 (xs.take j) ∧ w = wr)
  case atStart => exact ⟨0, 4294967295, by omega, rfl, rfl, rfl, rfl⟩
  case round =>
    obtain ⟨j, q, hjk, rfl, rfl, hqe, rfl⟩ := hrel
    have hjn : j ≤ xs.length := by omega
    have hq : q < 4294967296 := by rw [hqe]; exact crcFrom_lt (by decide)
    have HJ := Lib.hid hjk
    have HQ := Lib.hid hqe
    clear hjk hqe
    by_cases hlt : j < xs.length
    · obtain ⟨b, o, rfl, _, hcell⟩ := rowAt HR.out (bvs_get xs j hlt)
      have hb : (xs[j]).toNat < 256 := (xs[j]).toNat_lt
      obtain ⟨y, hy⟩ : ∃ y, (xs[j]).toNat = y := ⟨_, rfl⟩
      rw [hy] at hb hcell
      have HY := Lib.hid hy
      clear hy
      -- the first half
      obtain ⟨q1, h1⟩ : ∃ q1, q ^^^ y = q1 := ⟨_, rfl⟩
      have e1 : bits .xor .u32 (q : Int) (y : Int) = (q1 : Int) := by rw [u32_xor_nat q y hq (by omega), h1]
      have l1 : q1 < 4294967296 := by rw [← h1]; exact xor_lt hq (by omega)
      obtain ⟨i1, g1⟩ : ∃ i1, q1 &&& 15 = i1 := ⟨_, rfl⟩
      have e2 : bits .and .u32 (q1 : Int) 15 = (i1 : Int) := by rw [show (15 : Int) = ((15 : Nat) : Int) from rfl, u32_and_nat q1 15 l1 (by decide), g1]
      have m1 : i1 < 16 := by rw [← g1]; exact and15_lt q1
      have c1 := HT.out i1 m1
      have n1 := tab16_lt m1
      obtain ⟨t1, r1⟩ : ∃ t1, tab16.getD i1 0 = t1 := ⟨_, rfl⟩
      rw [r1] at c1 n1
      obtain ⟨q2, h2⟩ : ∃ q2, t1 ^^^ (q1 / 16) = q2 := ⟨_, rfl⟩
      have e3 : bits .xor .u32 (t1 : Int) ((q1 : Int) / 16) = (q2 : Int) := by rw [show (q1 : Int) / 16 = ((q1 / 16 : Nat) : Int) from rfl, u32_xor_nat t1 (q1 / 16) n1 (by omega), h2]
      have l2 : q2 < 4294967296 := by rw [← h2]; exact xor_lt n1 (by omega)
      have hh1 : half q1 = q2 := by rw [half, g1, r1, h2]
      -- the second half
      obtain ⟨i2, g2⟩ : ∃ i1, q2 &&& 15 = i1 := ⟨_, rfl⟩
      have e4 : bits .and .u32 (q2 : Int) 15 = (i2 : Int) := by rw [show (15 : Int) = ((15 : Nat) : Int) from rfl, u32_and_nat q2 15 l2 (by decide), g2]
      have m2 : i2 < 16 := by rw [← g2]; exact and15_lt q2
      have c2 := HT.out i2 m2
      have n2 := tab16_lt m2
      obtain ⟨t2, r2⟩ : ∃ t1, tab16.getD i2 0 = t1 := ⟨_, rfl⟩
      rw [r2] at c2 n2
      obtain ⟨q3, h3⟩ : ∃ z, t2 ^^^ (q2 / 16) = z := ⟨_, rfl⟩
      have e5 : bits .xor .u32 (t2 : Int) ((q2 : Int) / 16) = (q3 : Int) := by rw [show (q2 : Int) / 16 = ((q2 / 16 : Nat) : Int) from rfl, u32_xor_nat t2 (q2 / 16) n2 (by omega), h3]
      have hh2 : half q2 = q3 := by rw [half, g2, r2, h3]
      have hst : stepB q y = q3 := by rw [stepB, h1, hh1, hh2]
      have HSt := Lib.hid hst
      clear h1 g1 r1 h2 hh1 g2 r2 h3 hh2 hst
      go_wp2
      go_roundg (gk - 1)
      case measure => have := HJ.out; omega
      case rel =>
        refine ⟨j + 1, q3, by have := HJ.out; omega, by go_num, rfl, ?_, rfl⟩
        rw [List.take_succ_eq_append_getElem hlt, crcFrom, List.foldl_append]
        show q3 = stepB (crcFrom 4294967295 (xs.take j)) (xs[j]).toNat
        rw [← HQ.out, HY.out, HSt.out]
    · have e1 : bits .xor .u32 IntKind.u32.max (q : Int) = ((q ^^^ 4294967295 : Nat) : Int) := by
        rw [show IntKind.u32.max = ((4294967295 : Nat) : Int) from rfl, u32_xor_nat _ _ (by decide) hq, Nat.xor_comm]
      have E1 := Lib.hid e1
      clear e1
      go_wp2
      go_ret
      refine ⟨?_, rfl⟩
      have hq' := HQ.out
      rw [List.take_of_length_le (by omega)] at hq'
      rw [sumL, ← hq']
      exact congrArg (fun z => Ending.returned (Value.int .u32 z)) E1.out
/-! ### bit by bit -/
def bitS (c : Nat) : Nat := if c % 2 = 1 then c / 2 ^^^ 3988292384 else c / 2
def bitN : Nat → Nat → Nat
  | 0, c => c
  | n + 1, c => bitS (bitN n c)
theorem bitS_lt {c : Nat} (h : c < 4294967296) : bitS c < 4294967296 := by
  unfold bitS
  split
  · exact xor_lt (by omega) (by decide)
  · omega
theorem bitN_lt {c : Nat} (h : c < 4294967296) : ∀ n, bitN n c < 4294967296
  | 0 => h
  | n + 1 => bitS_lt (bitN_lt h n)
theorem xor_mod2 (a b : Nat) : (a ^^^ b) % 2 = (a % 2) ^^^ (b % 2) := Nat.xor_mod_two_pow (n := 1)
theorem xor_div2 (a b : Nat) : (a ^^^ b) / 2 = (a / 2) ^^^ (b / 2) := Nat.xor_div_two_pow (n := 1)
theorem bitS_xor (a b : Nat) : bitS (a ^^^ b) = bitS a ^^^ bitS b := by
  have hm := xor_mod2 a b
  have hd := xor_div2 a b
  unfold bitS
  rw [hm, hd]
  rcases Nat.mod_two_eq_zero_or_one a with ha | ha <;> rcases Nat.mod_two_eq_zero_or_one b with hb | hb <;> rw [ha, hb]
  · simp
  · simp [Nat.xor_assoc]
  · simp only [Nat.xor_zero, if_true]
    rw [if_neg (by decide)]
    rw [Nat.xor_assoc, Nat.xor_assoc, Nat.xor_comm 3988292384]
  · simp only [Nat.xor_self, if_true]
    rw [if_neg (by decide), Nat.xor_assoc, ← Nat.xor_assoc 3988292384, Nat.xor_comm 3988292384 (b / 2), Nat.xor_assoc, Nat.xor_self, Nat.xor_zero]
theorem bitN_xor (a b : Nat) : ∀ n, bitN n (a ^^^ b) = bitN n a ^^^ bitN n b
  | 0 => rfl
  | n + 1 => by rw [bitN, bitN_xor a b n, bitS_xor]; rfl
theorem bitN_add (m n c : Nat) : bitN (m + n) c = bitN m (bitN n c) := by
  induction m with
  | zero => rw [Nat.zero_add]; rfl
  | succ m ih => rw [Nat.succ_add]; show bitS (bitN (m + n) c) = _; rw [ih]; rfl
theorem bitS_even {c : Nat} (h : c % 2 = 0) : bitS c = c / 2 := by unfold bitS; rw [if_neg (by omega)]
theorem bit4_tab {i : Nat} (h : i < 16) : bitN 4 i = tab16.getD i 0 := by
  have : ∀ i : Fin 16, bitN 4 i.1 = tab16.getD i.1 0 := by decide +kernel
  exact this ⟨i, h⟩
theorem half_bits (c : Nat) : half c = bitN 4 c := by
  have hl : c &&& 15 = c % 16 := Nat.and_two_pow_sub_one_eq_mod c 4
  obtain ⟨l, hle⟩ : ∃ l, c % 16 = l := ⟨_, rfl⟩
  have hl16 : l < 16 := by omega
  obtain ⟨g, hg⟩ : ∃ g, c ^^^ l = g := ⟨_, rfl⟩
  have hc : c = g ^^^ l := by rw [← hg, Nat.xor_assoc, Nat.xor_self, Nat.xor_zero]
  have hgm : g % 16 = 0 := by
    rw [← hg]
    have := Nat.xor_mod_two_pow (a := c) (b := l) (n := 4)
    rw [show (2 : Nat) ^ 4 = 16 from rfl, hle, Nat.mod_eq_of_lt hl16, Nat.xor_self] at this
    exact this
  have hgd : g / 16 = c / 16 := by
    rw [← hg]
    have := Nat.xor_div_two_pow (a := c) (b := l) (n := 4)
    rw [show (2 : Nat) ^ 4 = 16 from rfl, Nat.div_eq_of_lt hl16, Nat.xor_zero] at this
    exact this
  have hg4 : bitN 4 g = g / 16 := by
    show bitS (bitS (bitS (bitS g))) = _
    rw [bitS_even (c := g) (by omega), bitS_even (c := g / 2) (by omega), bitS_even (c := g / 2 / 2) (by omega), bitS_even (c := g / 2 / 2 / 2) (by omega)]
    omega
  rw [half, hl, hle, ← bit4_tab hl16]
  conv => rhs; rw [hc]
  rw [bitN_xor, hg4, hgd, Nat.xor_comm]
theorem stepB_bits (c b : Nat) : stepB c b = bitN 8 (c ^^^ b) := by
  rw [stepB, half_bits, half_bits, ← bitN_add]

theorem ref_Sum {F : Nat → Prop} (w : World) {a : Option Addr} (c : Nat) {xs : List UInt8} (hr : Row F w a (bvs xs)) (hx : xs.length ≤ 9223372036854775807) :
    Calls Tryd.prog 20 #[.slice a xs.length c] w fun e w' => e = .returned (.int .u32 ((sumL xs : Nat) : Int)) ∧ w = w' := by
  have HR := Lib.hid hr
  clear hr
  go_enter Tryd.func20, Tryd.ntmps20
  go_wp2
  go_loopg [3, 9] xs.length (fun k v i wr => ∃ j c : Nat, j + k = xs.length ∧ i = .int .i64 j ∧ v = .int .u32 (c : Int) ∧ c = crcFrom 4294967295 (xs.take j) ∧ w = wr)
  case atStart => exact ⟨0, 4294967295, by omega, rfl, rfl, rfl, rfl⟩
  case round =>
    obtain ⟨j, q, hjk, rfl, rfl, hqe, rfl⟩ := hrel
    have hjn : j ≤ xs.length := by omega
    have hq : q < 4294967296 := by rw [hqe]; exact crcFrom_lt (by decide)
    have HJ := Lib.hid hjk
    have HQ := Lib.hid hqe
    clear hjk hqe
    by_cases hlt : j < xs.length
    · obtain ⟨b, o, rfl, _, hcell⟩ := rowAt HR.out (bvs_get xs j hlt)
      have hb : (xs[j]).toNat < 256 := (xs[j]).toNat_lt
      obtain ⟨y, hy⟩ : ∃ y, (xs[j]).toNat = y := ⟨_, rfl⟩
      rw [hy] at hb hcell
      have HY := Lib.hid hy
      clear hy
      obtain ⟨q1, h1⟩ : ∃ q1, q ^^^ y = q1 := ⟨_, rfl⟩
      have e1 : bits .xor .u32 (q : Int) (y : Int) = (q1 : Int) := by rw [u32_xor_nat q y hq (by omega), h1]
      have l1 : q1 < 4294967296 := by rw [← h1]; exact xor_lt hq (by omega)
      have H1 := Lib.hid h1
      clear h1
      go_wp2
      obtain ⟨wo, hwo⟩ : ∃ wo : World, wo = w := ⟨_, rfl⟩
      obtain ⟨go, hgo⟩ : ∃ go : Nat, go = gk := ⟨_, rfl⟩
      have HGo := Lib.hid hgo
      have HWo := Lib.hid hwo
      clear hgo hwo
      go_loopg [3, 17] 8 (fun k v i wr => ∃ m c : Nat, m + k = 8 ∧ i = .int .i64 m ∧ v = .int .u32 (c : Int) ∧ c = bitN m q1 ∧ w = wr)
      case atStart => exact ⟨0, q1, by omega, rfl, rfl, rfl, rfl⟩
      case round =>
        obtain ⟨m, r, hmk, rfl, rfl, hre, rfl⟩ := hrel
        have hm8 : m ≤ 8 := by omega
        have hrl : r < 4294967296 := by rw [hre]; exact bitN_lt l1 m
        have HM := Lib.hid hmk
        have HRe := Lib.hid hre
        clear hmk hre
        by_cases hlt2 : m < 8
        · have eA : bits .and .u32 (r : Int) 1 = ((r % 2 : Nat) : Int) := by rw [show (1 : Int) = ((1 : Nat) : Int) from rfl, u32_and_nat r 1 hrl (by decide), Nat.and_one_is_mod]
          rcases Nat.mod_two_eq_zero_or_one r with h2 | h2
          · rw [h2] at eA
            have hs : bitS r = r / 2 := bitS_even h2
            have HS := Lib.hid hs
            clear hs h2
            go_wp2
            go_roundg (gk - 1)
            case measure => have := HM.out; omega
            case rel => exact ⟨m + 1, r / 2, by have := HM.out; omega, by go_num, rfl, by rw [bitN, ← HRe.out, HS.out], rfl⟩
          · rw [h2] at eA
            obtain ⟨r2, hr2⟩ : ∃ z, r / 2 ^^^ 3988292384 = z := ⟨_, rfl⟩
            have hs : bitS r = r2 := by unfold bitS; rw [if_pos h2, hr2]
            have eX : bits .xor .u32 ((r : Int) / 2) 3988292384 = (r2 : Int) := by rw [show (r : Int) / 2 = ((r / 2 : Nat) : Int) from rfl, show (3988292384 : Int) = ((3988292384 : Nat) : Int) from rfl, u32_xor_nat (r / 2) 3988292384 (by omega) (by decide), hr2]
            have HS := Lib.hid hs
            clear hs h2 hr2
            go_wp2
            go_roundg (gk - 1)
            case measure => have := HM.out; omega
            case rel => exact ⟨m + 1, r2, by have := HM.out; omega, by go_num, rfl, by rw [bitN, ← HRe.out, HS.out], rfl⟩
        · obtain rfl : m = 8 := by omega
          go_wp2
          go_roundg (go - 1)
          case measure => have := HJ.out; have := HGo.out; omega
          case rel =>
            refine ⟨j + 1, r, by have := HJ.out; have := HGo.out; omega, by go_num, rfl, ?_, rfl⟩
            rw [List.take_succ_eq_append_getElem hlt, crcFrom, List.foldl_append]
            show r = stepB (crcFrom 4294967295 (xs.take j)) (xs[j]).toNat
            rw [← HQ.out, HY.out, stepB_bits, H1.out, HRe.out]
    · have e1 : bits .xor .u32 (q : Int) 4294967295 = ((q ^^^ 4294967295 : Nat) : Int) := by
        rw [show (4294967295 : Int) = ((4294967295 : Nat) : Int) from rfl, u32_xor_nat _ _ hq (by decide)]
      have E1 := Lib.hid e1
      clear e1
      go_wp2
      go_ret
      refine ⟨?_, rfl⟩
      have hq' := HQ.out
      rw [List.take_of_length_le (by omega)] at hq'
      rw [sumL, ← hq']
      exact congrArg (fun z => Ending.returned (Value.int .u32 z)) E1.out
end Go.Proofs.YtbaombnnagidcaaDoor
