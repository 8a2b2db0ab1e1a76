/- Numbers as bytes: Put, of the program and of the document. -/
import Derived.Test.YtbaombnnagidcaaDoorZL00
import Derived.IntWalk
import Derived.Laws.BitsAll
import Derived.Lib.AppendStr
import Derived.Laws.OwnMore
import Derived.Laws.AppendOwn

namespace Go.Proofs.YtbaombnnagidcaaDoor
open Go.RowKit

/-- the bytes of a number -/
def putL (n : Nat) : List UInt8 := if n < 128 then [UInt8.ofNat n] else UInt8.ofNat (n % 128 + 128) :: putL (n / 128)
theorem putL_small {n : Nat} (h : n < 128) : putL n = [UInt8.ofNat n] := by rw [putL, if_pos h]
theorem putL_big {n : Nat} (h : ¬ n < 128) : putL n = UInt8.ofNat (n % 128 + 128) :: putL (n / 128) := by rw [putL, if_neg h]
theorem length_putL_le : ∀ (k n : Nat), n < 128 ^ (k + 1) → (putL n).length ≤ k + 1
  | 0, n, h => by rw [putL_small (by simpa using h)]; simp
  | k + 1, n, h => by
    by_cases hs : n < 128
    · rw [putL_small hs]; simp
    · rw [putL_big hs, List.length_cons]
      have := length_putL_le k (n / 128) (by rw [Nat.pow_succ] at h; omega)
      omega
theorem length_putL {n : Nat} (h : n < 9223372036854775808) : (putL n).length ≤ 9 := length_putL_le 8 n (by omega)
theorem length_putL_pos (n : Nat) : 1 ≤ (putL n).length := by
  by_cases h : n < 128
  · rw [putL_small h]; simp
  · rw [putL_big h]; simp

theorem toNat_ofNat8 {m : Nat} (h : m < 256) : (UInt8.ofNat m).toNat = m := by
  rw [UInt8.toNat_ofNat']
  exact Nat.mod_eq_of_lt (by omega)
theorem or128 (k : Nat) : Value.int .u8 (bits .or .u8 ((k : Int) % 256) 128) = bv (UInt8.ofNat (k % 128 + 128)) := by
  have e : ((k : Int) % 256) = ((k % 256 : Nat) : Int) := by omega
  have e2 : ∀ m : Fin 256, (m.1 ||| 128) = m.1 % 128 + 128 := by decide +kernel
  rw [bv, toNat_ofNat8 (by omega), e, show (128 : Int) = ((128 : Nat) : Int) from rfl, u8_or_nat _ _ (by omega) (by omega), e2 ⟨k % 256, by omega⟩]
  show Value.int .u8 (((k % 256 % 128 + 128 : Nat)) : Int) = _
  congr 1
  omega
theorem add128 (k : Nat) : Value.int .u8 ((k : Int) % 128 + 128) = bv (UInt8.ofNat (k % 128 + 128)) := by
  rw [bv, toNat_ofNat8 (by omega)]
  congr 1
theorem low128 {k : Nat} (h : k < 128) : Value.int .u8 (k : Int) = bv (UInt8.ofNat k) := by
  rw [bv, toNat_ofNat8 (by omega)]

theorem ownCell {F : Nat → Prop} {w : World} {t : TypeId} {g n c : Nat} {cs : List Value} (h : Own F w t 1 (some ⟨g, 0, none⟩) n c cs) {i : Nat} {v : Value} (hv : cs[i]? = some v) : w.cell? ⟨g, i, none⟩ = some v := by
  obtain ⟨b, o, e, _, hc⟩ := h.row (by rintro rfl; simp at hv)
  obtain ⟨rfl, rfl⟩ : g = b ∧ 0 = o := by simpa using e
  simpa using hc i v hv

/-- a number that may be less than nought, as Put takes it -/
def putZ (z : Int) : List UInt8 := putL z.toNat
theorem length_putZ {z : Int} (h : z < 9223372036854775808) : (putZ z).length ≤ 9 := length_putL (by omega)

set_option maxRecDepth 100000 in
set_option maxHeartbeats 1000000 in
theorem wire_Put {F : Nat → Prop} (w : World) {a : Option Addr} (c : Nat) {xs : List UInt8} (hr : Row F w a (bvs xs)) (hA : a = none → c = 0) (hx : xs.length ≤ 140737488355000) (z : Int) (hz : z < 9223372036854775808) :
    Calls Tryd.prog 14 #[.slice a xs.length c, .int .i64 z] w (RetOwn w 5 1 (xs ++ putZ z).length (bvs (xs ++ putZ z))) := by
  have HR := Lib.hid hr
  have HAn := Lib.hid hA
  clear hr hA
  obtain ⟨i0, hi, hz0, hz1, hz2⟩ := info_parts infoU8
  have hi0 := Lib.hid (And.intro hi (And.intro hz0 (And.intro hz1 hz2)))
  clear hi hz0 hz1 hz2
  obtain ⟨n, hn, hzn⟩ : ∃ n : Nat, n < 9223372036854775808 ∧ (z = (n : Int) ∨ z < 0 ∧ n = 0) := by
    by_cases h : z < 0
    · exact ⟨0, by decide, .inr ⟨h, rfl⟩⟩
    · exact ⟨z.toNat, by omega, .inl (by omega)⟩
  have hpz : putZ z = putL n := by
    unfold putZ
    congr 1
    omega
  rw [hpz]
  clear hpz hz
  rcases hzn with rfl | ⟨hz0, h0⟩
  case' inr => have H0 := Lib.hid h0; clear h0
  all_goals
    go_enter Tryd.func14, Tryd.ntmps14
    go_wp2_with (go_at_call 53; refine (slicesCloneB _ c HR.out (by omega)).mono ?_; rintro e w1 ⟨a1, c1, rfl, h1, h2⟩; have HO := Lib.hid h1; have HU := Lib.hid h2; clear h1 h2)
    go_loopg [1, 5] n (fun k v s wr => ∃ ys a1 c1, v = .int .i64 (k : Nat) ∧ s = .slice a1 (List.length ys) c1 ∧ ys ++ putL k = xs ++ putL n ∧ k ≤ n ∧ Own (Fr w wr) wr 5 1 a1 ys.length c1 (bvs ys) ∧ Upd Nil w wr)
    case atStart => exact ⟨xs, a1, c1, by first | rfl | (rw [H0.out]; rfl), rfl, rfl, Nat.le_refl _, HO.out, HU.out⟩
    case round =>
      obtain ⟨ys, a2, c2, rfl, rfl, he, hkn, hown, hup⟩ := hrel
      have hlen := congrArg List.length he
      rw [List.length_append, List.length_append] at hlen
      have hpn := length_putL hn
      have hyl : ys.length ≤ 140737488355100 := by omega
      have HE := Lib.hid he
      have HO2 := Lib.hid hown
      have HU2 := Lib.hid hup
      clear he hown hup hlen hpn
      by_cases hk : 127 < gk
      · go_wp2_with (at_builtin; refine wpList_append_Own rfl (.tmp 14) (.tmp 18) 22 rfl Tryd.underlying22 hi0.out.1 hi0.out.2.1 hi0.out.2.2.1 hi0.out.2.2.2 rfl (by decide) rfl (HO2.out.alloc _) rfl (one_row wr _ _) (by simp) (by simp [Value.oneCell']) (by intro h; cases h) (by simp only [maxLen]; omega) (by omega) ?_; intro a3 c3 w3 h1 h2 _; have HO3 := Lib.hid h1; have HU3 := Lib.hid h2; clear h1 h2)
        go_roundg (gk / 128)
        case measure => omega
        case rel =>
          have ho := HO3.out
          rw [or128] at ho
          have z0 := HU2.out.size
          have z3 := HU3.out.size
          simp only [World.size_alloc] at z3
          refine ⟨ys ++ [UInt8.ofNat (gk % 128 + 128)], a3, c3, by go_num, by rw [List.length_append]; rfl, ?_, by omega, ?_, (HU2.out.alloc _).trans HU3.out (fun k hk hlt => by have := hk.1; omega)⟩
          · rw [List.append_assoc, List.singleton_append, ← putL_big (by omega)]
            exact HE.out
          · rw [List.length_append, bvs_append]
            refine Own.mono ho ?_
            rintro k (h | h)
            · exact ⟨h.1, by have := h.2; omega⟩
            · have h1 := h.1
              simp only [World.size_alloc] at h1
              exact ⟨by omega, h.2⟩
      · go_wp2_with (at_builtin; refine wpList_append_Own rfl (.tmp 20) (.tmp 23) 22 rfl Tryd.underlying22 hi0.out.1 hi0.out.2.1 hi0.out.2.2.1 hi0.out.2.2.2 rfl (by decide) rfl (HO2.out.alloc _) rfl (one_row wr _ _) (by simp) (by simp [Value.oneCell']) (by intro h; cases h) (by simp only [maxLen]; omega) (by omega) ?_; intro a3 c3 w3 h1 h2 _; have HO3 := Lib.hid h1; have HU3 := Lib.hid h2; clear h1 h2)
        go_ret
        have ho := HO3.out
        rw [low128 (by omega)] at ho
        have z0 := HU2.out.size
        have z3 := HU3.out.size
        simp only [World.size_alloc] at z3
        have he := HE.out
        rw [putL_small (by omega)] at he
        rw [← he]
        refine ⟨a3, c3, by rw [List.length_append]; rfl, ?_, (HU2.out.alloc _).trans HU3.out (fun k hk hlt => by have := hk.1; omega)⟩
        rw [List.length_append, bvs_append]
        refine Own.mono ho ?_
        rintro k (h | h)
        · exact ⟨h.1, by have := h.2; omega⟩
        · have h1 := h.1
          simp only [World.size_alloc] at h1
          exact ⟨by omega, h.2⟩

/-- bytes appended onto a row of no element -/
theorem put_start {w w1 : World} {a1 : Option Addr} {c1 : Nat} {xs : List UInt8} (h : Own (fun k => Fr w (w.alloc (.cells #[] 5)) k ∨ Fr (w.alloc (.cells #[] 5)) w1 k) w1 5 1 a1 (0 + xs.length) c1 ([] ++ bvs xs)) (u : Upd (Fr w (w.alloc (.cells #[] 5))) (w.alloc (.cells #[] 5)) w1) :
    Own (Fr w w1) w1 5 1 a1 xs.length c1 (bvs xs) := by
  rw [Nat.zero_add, List.nil_append] at h
  refine h.mono ?_
  rintro k (⟨h1, h2⟩ | ⟨h1, h2⟩)
  · exact ⟨h1, Nat.lt_of_lt_of_le h2 u.size⟩
  · exact ⟨by simp at h1; omega, h2⟩
theorem put_start_upd {w w1 : World} (u : Upd (Fr w (w.alloc (.cells #[] 5))) (w.alloc (.cells #[] 5)) w1) : Upd Nil w w1 :=
  ((Upd.refl Nil w).alloc _).trans u (fun k h1 h2 => by have := h1.1; omega)

set_option maxRecDepth 100000 in
set_option maxHeartbeats 1000000 in
theorem ref_Put {F : Nat → Prop} (w : World) {a : Option Addr} (c : Nat) {xs : List UInt8} (hr : Row F w a (bvs xs)) (hA : a = none → c = 0) (hx : xs.length ≤ 140737488355000) (z : Int) (hz : z < 9223372036854775808) :
    Calls Tryd.prog 17 #[.slice a xs.length c, .int .i64 z] w (RetOwn w 5 1 (xs ++ putZ z).length (bvs (xs ++ putZ z))) := by
  have HR := Lib.hid hr
  have HAn := Lib.hid hA
  clear hr hA
  obtain ⟨i0, hi, hz0, hz1, hz2⟩ := info_parts infoU8
  have hi0 := Lib.hid (And.intro hi (And.intro hz0 (And.intro hz1 hz2)))
  clear hi hz0 hz1 hz2
  obtain ⟨n, hn, hzn⟩ : ∃ n : Nat, n < 9223372036854775808 ∧ (z = (n : Int) ∨ z < 0 ∧ n = 0) := by
    by_cases h : z < 0
    · exact ⟨0, by decide, .inr ⟨h, rfl⟩⟩
    · exact ⟨z.toNat, by omega, .inl (by omega)⟩
  have hpz : putZ z = putL n := by
    unfold putZ
    congr 1
    omega
  rw [hpz]
  clear hpz hz
  rcases hzn with rfl | ⟨hz0, h0⟩
  case' inr => have H0 := Lib.hid h0; clear h0
  all_goals
    go_enter Tryd.func17, Tryd.ntmps17
    go_wp2_with (at_builtin; refine wpList_append_Own rfl (.tmp 6) (.tmp 7) 22 rfl Tryd.underlying22 hi0.out.1 hi0.out.2.1 hi0.out.2.2.1 hi0.out.2.2.2 rfl (by decide) rfl (own_empty w) rfl (HR.out.alloc _) (by simp) (bvs_one xs) HAn.out (by simp only [maxLen]; omega) (by omega) ?_; intro a1 c1 w1 h1 h2 _; have HO := Lib.hid (put_start h1 h2); have HU := Lib.hid (put_start_upd h2); clear h1 h2; rw [Nat.zero_add])
    go_loopg [1, 5] n (fun k v s wr => ∃ ys a1 c1, v = .int .i64 (k : Nat) ∧ s = .slice a1 (List.length ys) c1 ∧ ys ++ putL k = xs ++ putL n ∧ k ≤ n ∧ Own (Fr w wr) wr 5 1 a1 ys.length c1 (bvs ys) ∧ Upd Nil w wr)
    case atStart => exact ⟨xs, a1, c1, by first | rfl | (rw [H0.out]; rfl), rfl, rfl, Nat.le_refl _, HO.out, HU.out⟩
    case round =>
      obtain ⟨ys, a2, c2, rfl, rfl, he, hkn, hown, hup⟩ := hrel
      have hlen := congrArg List.length he
      rw [List.length_append, List.length_append] at hlen
      have hpn := length_putL hn
      have hyl : ys.length ≤ 140737488355100 := by omega
      have HE := Lib.hid he
      have HO2 := Lib.hid hown
      have HU2 := Lib.hid hup
      clear he hown hup hlen hpn
      by_cases hk : 127 < gk
      · go_wp2_with (at_builtin; refine wpList_append_Own rfl (.tmp 13) (.tmp 18) 22 rfl Tryd.underlying22 hi0.out.1 hi0.out.2.1 hi0.out.2.2.1 hi0.out.2.2.2 rfl (by decide) rfl (HO2.out.alloc _) rfl (one_row wr _ _) (by simp) (by simp [Value.oneCell']) (by intro h; cases h) (by simp only [maxLen]; omega) (by omega) ?_; intro a3 c3 w3 h1 h2 _; have HO3 := Lib.hid h1; have HU3 := Lib.hid h2; clear h1 h2)
        go_roundg (gk / 128)
        case measure => omega
        case rel =>
          have ho := HO3.out
          rw [add128] at ho
          have z0 := HU2.out.size
          have z3 := HU3.out.size
          simp only [World.size_alloc] at z3
          refine ⟨ys ++ [UInt8.ofNat (gk % 128 + 128)], a3, c3, by go_num, by rw [List.length_append]; rfl, ?_, by omega, ?_, (HU2.out.alloc _).trans HU3.out (fun k hk hlt => by have := hk.1; omega)⟩
          · rw [List.append_assoc, List.singleton_append, ← putL_big (by omega)]
            exact HE.out
          · rw [List.length_append, bvs_append]
            refine Own.mono ho ?_
            rintro k (h | h)
            · exact ⟨h.1, by have := h.2; omega⟩
            · have h1 := h.1
              simp only [World.size_alloc] at h1
              exact ⟨by omega, h.2⟩
      · go_wp2_with (at_builtin; refine wpList_append_Own rfl (.tmp 22) (.tmp 25) 22 rfl Tryd.underlying22 hi0.out.1 hi0.out.2.1 hi0.out.2.2.1 hi0.out.2.2.2 rfl (by decide) rfl (HO2.out.alloc _) rfl (one_row wr _ _) (by simp) (by simp [Value.oneCell']) (by intro h; cases h) (by simp only [maxLen]; omega) (by omega) ?_; intro a3 c3 w3 h1 h2 _; have HO3 := Lib.hid h1; have HU3 := Lib.hid h2; clear h1 h2)
        go_ret
        have ho := HO3.out
        rw [low128 (by omega)] at ho
        have z0 := HU2.out.size
        have z3 := HU3.out.size
        simp only [World.size_alloc] at z3
        have he := HE.out
        rw [putL_small (by omega)] at he
        rw [← he]
        refine ⟨a3, c3, by rw [List.length_append]; rfl, ?_, (HU2.out.alloc _).trans HU3.out (fun k hk hlt => by have := hk.1; omega)⟩
        rw [List.length_append, bvs_append]
        refine Own.mono ho ?_
        rintro k (h | h)
        · exact ⟨h.1, by have := h.2; omega⟩
        · have h1 := h.1
          simp only [World.size_alloc] at h1
          exact ⟨by omega, h.2⟩
end Go.Proofs.YtbaombnnagidcaaDoor

namespace Go.Proofs.YtbaombnnagidcaaDoor
open Go.RowKit

def tab16 : List Nat := [0, 498536548, 997073096, 651767980, 1994146192, 1802195444, 1303535960, 1342533948, 3988292384, 4027552580, 3604390888, 3412177804, 2607071920, 2262029012, 2685067896, 3183342108]
/-- the table lies in the variable's block -/
def Tab (w : World) : Prop := ∀ i, i < 16 → w.cell? ⟨0, i, none⟩ = some (.int .u32 ((tab16.getD i 0 : Nat) : Int))
theorem Tab.upd {G : Nat → Prop} {w w' : World} (h : Tab w) (u : Upd G w w') (hG : ¬ G 0) : Tab w' := fun i hi => u.cell (h i hi) hG

/-- half a byte -/
def half (c : Nat) : Nat := tab16.getD (c &&& 15) 0 ^^^ (c / 16)
/-- a byte -/
def stepB (c b : Nat) : Nat := half (half (c ^^^ b))
def crcFrom (c : Nat) (l : List UInt8) : Nat := l.foldl (fun c b => stepB c b.toNat) c
def sumL (l : List UInt8) : Nat := crcFrom 4294967295 l ^^^ 4294967295

theorem tab16_lt {i : Nat} (h : i < 16) : tab16.getD i 0 < 4294967296 := by
  have : ∀ i : Fin 16, tab16.getD i.1 0 < 4294967296 := by decide +kernel
  exact this ⟨i, h⟩
theorem and15_lt (c : Nat) : c &&& 15 < 16 := Nat.lt_of_le_of_lt Nat.and_le_right (by decide)
theorem xor_lt {a b : Nat} (ha : a < 4294967296) (hb : b < 4294967296) : a ^^^ b < 4294967296 := Nat.xor_lt_two_pow (n := 32) ha hb
theorem half_lt {c : Nat} (h : c < 4294967296) : half c < 4294967296 := xor_lt (tab16_lt (and15_lt c)) (by omega)
theorem stepB_lt {c b : Nat} (hc : c < 4294967296) (hb : b < 4294967296) : stepB c b < 4294967296 := half_lt (half_lt (xor_lt hc hb))
theorem crcFrom_lt : ∀ {l : List UInt8} {c : Nat}, c < 4294967296 → crcFrom c l < 4294967296
  | [], _, h => h
  | b :: l, _, h => crcFrom_lt (l := l) (stepB_lt h (by have := b.toNat_lt; omega))
theorem sumL_lt (l : List UInt8) : sumL l < 4294967296 := xor_lt (crcFrom_lt (by decide)) (by decide)

theorem wire_Sum {F : Nat → Prop} (w : World) {a : Option Addr} (c : Nat) {xs : List UInt8} (hr : Row F w a (bvs xs)) (hx : xs.length ≤ 9223372036854775807) (ht : Tab w) :
    Calls Tryd.prog 19 #[.slice a xs.length c] w fun e w' => e = .returned (.int .u32 ((sumL xs : Nat) : Int)) ∧ w = w' := by
  have HR := Lib.hid hr
  have HT := Lib.hid ht
  clear hr ht
  go_enter Tryd.func19, Tryd.ntmps19
  go_wp2
  go_loopg [3, 8] xs.length (fun k v i wr => ∃ j c : Nat, j + k = xs.length ∧ i = .int .i64 j ∧ v = .int .u32 (c : Int) ∧ c = crcFrom 4294967295 (xs.take j) ∧ w = wr)
  case atStart => exact ⟨0, 4294967295, by omega, rfl, rfl, rfl, rfl⟩
  case round =>
    obtain ⟨j, q, hjk, rfl, rfl, hqe, rfl⟩ := hrel
    have hjn : j ≤ xs.length := by omega
    have hq : q < 4294967296 := by rw [hqe]; exact crcFrom_lt (by decide)
    have HJ := Lib.hid hjk
    have HQ := Lib.hid hqe
    clear hjk hqe
    by_cases hlt : j < xs.length
    · obtain ⟨b, o, rfl, _, hcell⟩ := rowAt HR.out (bvs_get xs j hlt)
      have hb : (xs[j]).toNat < 256 := (xs[j]).toNat_lt
      obtain ⟨y, hy⟩ : ∃ y, (xs[j]).toNat = y := ⟨_, rfl⟩
      rw [hy] at hb hcell
      have HY := Lib.hid hy
      clear hy
      -- the first half
      obtain ⟨q1, h1⟩ : ∃ q1, q ^^^ y = q1 := ⟨_, rfl⟩
      have e1 : bits .xor .u32 (q : Int) (y : Int) = (q1 : Int) := by rw [u32_xor_nat q y hq (by omega), h1]
      have l1 : q1 < 4294967296 := by rw [← h1]; exact xor_lt hq (by omega)
      obtain ⟨i1, g1⟩ : ∃ i1, q1 &&& 15 = i1 := ⟨_, rfl⟩
      have e2 : bits .and .u32 (q1 : Int) 15 = (i1 : Int) := by rw [show (15 : Int) = ((15 : Nat) : Int) from rfl, u32_and_nat q1 15 l1 (by decide), g1]
      have m1 : i1 < 16 := by rw [← g1]; exact and15_lt q1
      have c1 := HT.out i1 m1
      have n1 := tab16_lt m1
      obtain ⟨t1, r1⟩ : ∃ t1, tab16.getD i1 0 = t1 := ⟨_, rfl⟩
      rw [r1] at c1 n1
      obtain ⟨q2, h2⟩ : ∃ q2, t1 ^^^ (q1 / 16) = q2 := ⟨_, rfl⟩
      have e3 : bits .xor .u32 (t1 : Int) ((q1 : Int) / 16) = (q2 : Int) := by rw [show (q1 : Int) / 16 = ((q1 / 16 : Nat) : Int) from rfl, u32_xor_nat t1 (q1 / 16) n1 (by omega), h2]
      have l2 : q2 < 4294967296 := by rw [← h2]; exact xor_lt n1 (by omega)
      have hh1 : half q1 = q2 := by rw [half, g1, r1, h2]
      -- the second half
      obtain ⟨i2, g2⟩ : ∃ i1, q2 &&& 15 = i1 := ⟨_, rfl⟩
      have e4 : bits .and .u32 (q2 : Int) 15 = (i2 : Int) := by rw [show (15 : Int) = ((15 : Nat) : Int) from rfl, u32_and_nat q2 15 l2 (by decide), g2]
      have m2 : i2 < 16 := by rw [← g2]; exact and15_lt q2
      have c2 := HT.out i2 m2
      have n2 := tab16_lt m2
      obtain ⟨t2, r2⟩ : ∃ t1, tab16.getD i2 0 = t1 := ⟨_, rfl⟩
      rw [r2] at c2 n2
      obtain ⟨q3, h3⟩ : ∃ z, t2 ^^^ (q2 / 16) = z := ⟨_, rfl⟩
      have e5 : bits .xor .u32 (t2 : Int) ((q2 : Int) / 16) = (q3 : Int) := by rw [show (q2 : Int) / 16 = ((q2 / 16 : Nat) : Int) from rfl, u32_xor_nat t2 (q2 / 16) n2 (by omega), h3]
      have hh2 : half q2 = q3 := by rw [half, g2, r2, h3]
      have hst : stepB q y = q3 := by rw [stepB, h1, hh1, hh2]
      have HSt := Lib.hid hst
      clear h1 g1 r1 h2 hh1 g2 r2 h3 hh2 hst
      go_wp2
      go_roundg (gk - 1)
      case measure => have := HJ.out; omega
      case rel =>
        refine ⟨j + 1, q3, by have := HJ.out; omega, by go_num, rfl, ?_, rfl⟩
        rw [List.take_succ_eq_append_getElem hlt, crcFrom, List.foldl_append]
        show q3 = stepB (crcFrom 4294967295 (xs.take j)) (xs[j]).toNat
        rw [← HQ.out, HY.out, HSt.out]
    · have e1 : bits .xor .u32 IntKind.u32.max (q : Int) = ((q ^^^ 4294967295 : Nat) : Int) := by
        rw [show IntKind.u32.max = ((4294967295 : Nat) : Int) from rfl, u32_xor_nat _ _ (by decide) hq, Nat.xor_comm]
      have E1 := Lib.hid e1
      clear e1
      go_wp2
      go_ret
      refine ⟨?_, rfl⟩
      have hq' := HQ.out
      rw [List.take_of_length_le (by omega)] at hq'
      rw [sumL, ← hq']
      exact congrArg (fun z => Ending.returned (Value.int .u32 z)) E1.out
/-! ### bit by bit -/
def bitS (c : Nat) : Nat := if c % 2 = 1 then c / 2 ^^^ 3988292384 else c / 2
def bitN : Nat → Nat → Nat
  | 0, c => c
  | n + 1, c => bitS (bitN n c)
theorem bitS_lt {c : Nat} (h : c < 4294967296) : bitS c < 4294967296 := by
  unfold bitS
  split
  · exact xor_lt (by omega) (by decide)
  · omega
theorem bitN_lt {c : Nat} (h : c < 4294967296) : ∀ n, bitN n c < 4294967296
  | 0 => h
  | n + 1 => bitS_lt (bitN_lt h n)
theorem xor_mod2 (a b : Nat) : (a ^^^ b) % 2 = (a % 2) ^^^ (b % 2) := Nat.xor_mod_two_pow (n := 1)
theorem xor_div2 (a b : Nat) : (a ^^^ b) / 2 = (a / 2) ^^^ (b / 2) := Nat.xor_div_two_pow (n := 1)
theorem bitS_xor (a b : Nat) : bitS (a ^^^ b) = bitS a ^^^ bitS b := by
  have hm := xor_mod2 a b
  have hd := xor_div2 a b
  unfold bitS
  rw [hm, hd]
  rcases Nat.mod_two_eq_zero_or_one a with ha | ha <;> rcases Nat.mod_two_eq_zero_or_one b with hb | hb <;> rw [ha, hb]
  · simp
  · simp [Nat.xor_assoc]
  · simp only [Nat.xor_zero, if_true]
    rw [if_neg (by decide)]
    rw [Nat.xor_assoc, Nat.xor_assoc, Nat.xor_comm 3988292384]
  · simp only [Nat.xor_self, if_true]
    rw [if_neg (by decide), Nat.xor_assoc, ← Nat.xor_assoc 3988292384, Nat.xor_comm 3988292384 (b / 2), Nat.xor_assoc, Nat.xor_self, Nat.xor_zero]
theorem bitN_xor (a b : Nat) : ∀ n, bitN n (a ^^^ b) = bitN n a ^^^ bitN n b
  | 0 => rfl
  | n + 1 => by rw [bitN, bitN_xor a b n, bitS_xor]; rfl
theorem bitN_add (m n c : Nat) : bitN (m + n) c = bitN m (bitN n c) := by
  induction m with
  | zero => rw [Nat.zero_add]; rfl
  | succ m ih => rw [Nat.succ_add]; show bitS (bitN (m + n) c) = _; rw [ih]; rfl
theorem bitS_even {c : Nat} (h : c % 2 = 0) : bitS c = c / 2 := by unfold bitS; rw [if_neg (by omega)]
theorem bit4_tab {i : Nat} (h : i < 16) : bitN 4 i = tab16.getD i 0 := by
  have : ∀ i : Fin 16, bitN 4 i.1 = tab16.getD i.1 0 := by decide +kernel
  exact this ⟨i, h⟩
theorem half_bits (c : Nat) : half c = bitN 4 c := by
  have hl : c &&& 15 = c % 16 := Nat.and_two_pow_sub_one_eq_mod c 4
  obtain ⟨l, hle⟩ : ∃ l, c % 16 = l := ⟨_, rfl⟩
  have hl16 : l < 16 := by omega
  obtain ⟨g, hg⟩ : ∃ g, c ^^^ l = g := ⟨_, rfl⟩
  have hc : c = g ^^^ l := by rw [← hg, Nat.xor_assoc, Nat.xor_self, Nat.xor_zero]
  have hgm : g % 16 = 0 := by
    rw [← hg]
    have := Nat.xor_mod_two_pow (a := c) (b := l) (n := 4)
    rw [show (2 : Nat) ^ 4 = 16 from rfl, hle, Nat.mod_eq_of_lt hl16, Nat.xor_self] at this
    exact this
  have hgd : g / 16 = c / 16 := by
    rw [← hg]
    have := Nat.xor_div_two_pow (a := c) (b := l) (n := 4)
    rw [show (2 : Nat) ^ 4 = 16 from rfl, Nat.div_eq_of_lt hl16, Nat.xor_zero] at this
    exact this
  have hg4 : bitN 4 g = g / 16 := by
    show bitS (bitS (bitS (bitS g))) = _
    rw [bitS_even (c := g) (by omega), bitS_even (c := g / 2) (by omega), bitS_even (c := g / 2 / 2) (by omega), bitS_even (c := g / 2 / 2 / 2) (by omega)]
    omega
  rw [half, hl, hle, ← bit4_tab hl16]
  conv => rhs; rw [hc]
  rw [bitN_xor, hg4, hgd, Nat.xor_comm]
theorem stepB_bits (c b : Nat) : stepB c b = bitN 8 (c ^^^ b) := by
  rw [stepB, half_bits, half_bits, ← bitN_add]

theorem ref_Sum {F : Nat → Prop} (w : World) {a : Option Addr} (c : Nat) {xs : List UInt8} (hr : Row F w a (bvs xs)) (hx : xs.length ≤ 9223372036854775807) :
    Calls Tryd.prog 20 #[.slice a xs.length c] w fun e w' => e = .returned (.int .u32 ((sumL xs : Nat) : Int)) ∧ w = w' := by
  have HR := Lib.hid hr
  clear hr
  go_enter Tryd.func20, Tryd.ntmps20
  go_wp2
  go_loopg [3, 9] xs.length (fun k v i wr => ∃ j c : Nat, j + k = xs.length ∧ i = .int .i64 j ∧ v = .int .u32 (c : Int) ∧ c = crcFrom 4294967295 (xs.take j) ∧ w = wr)
  case atStart => exact ⟨0, 4294967295, by omega, rfl, rfl, rfl, rfl⟩
  case round =>
    obtain ⟨j, q, hjk, rfl, rfl, hqe, rfl⟩ := hrel
    have hjn : j ≤ xs.length := by omega
    have hq : q < 4294967296 := by rw [hqe]; exact crcFrom_lt (by decide)
    have HJ := Lib.hid hjk
    have HQ := Lib.hid hqe
    clear hjk hqe
    by_cases hlt : j < xs.length
    · obtain ⟨b, o, rfl, _, hcell⟩ := rowAt HR.out (bvs_get xs j hlt)
      have hb : (xs[j]).toNat < 256 := (xs[j]).toNat_lt
      obtain ⟨y, hy⟩ : ∃ y, (xs[j]).toNat = y := ⟨_, rfl⟩
      rw [hy] at hb hcell
      have HY := Lib.hid hy
      clear hy
      obtain ⟨q1, h1⟩ : ∃ q1, q ^^^ y = q1 := ⟨_, rfl⟩
      have e1 : bits .xor .u32 (q : Int) (y : Int) = (q1 : Int) := by rw [u32_xor_nat q y hq (by omega), h1]
      have l1 : q1 < 4294967296 := by rw [← h1]; exact xor_lt hq (by omega)
      have H1 := Lib.hid h1
      clear h1
      go_wp2
      obtain ⟨wo, hwo⟩ : ∃ wo : World, wo = w := ⟨_, rfl⟩
      obtain ⟨go, hgo⟩ : ∃ go : Nat, go = gk := ⟨_, rfl⟩
      have HGo := Lib.hid hgo
      have HWo := Lib.hid hwo
      clear hgo hwo
      go_loopg [3, 17] 8 (fun k v i wr => ∃ m c : Nat, m + k = 8 ∧ i = .int .i64 m ∧ v = .int .u32 (c : Int) ∧ c = bitN m q1 ∧ w = wr)
      case atStart => exact ⟨0, q1, by omega, rfl, rfl, rfl, rfl⟩
      case round =>
        obtain ⟨m, r, hmk, rfl, rfl, hre, rfl⟩ := hrel
        have hm8 : m ≤ 8 := by omega
        have hrl : r < 4294967296 := by rw [hre]; exact bitN_lt l1 m
        have HM := Lib.hid hmk
        have HRe := Lib.hid hre
        clear hmk hre
        by_cases hlt2 : m < 8
        · have eA : bits .and .u32 (r : Int) 1 = ((r % 2 : Nat) : Int) := by rw [show (1 : Int) = ((1 : Nat) : Int) from rfl, u32_and_nat r 1 hrl (by decide), Nat.and_one_is_mod]
          rcases Nat.mod_two_eq_zero_or_one r with h2 | h2
          · rw [h2] at eA
            have hs : bitS r = r / 2 := bitS_even h2
            have HS := Lib.hid hs
            clear hs h2
            go_wp2
            go_roundg (gk - 1)
            case measure => have := HM.out; omega
            case rel => exact ⟨m + 1, r / 2, by have := HM.out; omega, by go_num, rfl, by rw [bitN, ← HRe.out, HS.out], rfl⟩
          · rw [h2] at eA
            obtain ⟨r2, hr2⟩ : ∃ z, r / 2 ^^^ 3988292384 = z := ⟨_, rfl⟩
            have hs : bitS r = r2 := by unfold bitS; rw [if_pos h2, hr2]
            have eX : bits .xor .u32 ((r : Int) / 2) 3988292384 = (r2 : Int) := by rw [show (r : Int) / 2 = ((r / 2 : Nat) : Int) from rfl, show (3988292384 : Int) = ((3988292384 : Nat) : Int) from rfl, u32_xor_nat (r / 2) 3988292384 (by omega) (by decide), hr2]
            have HS := Lib.hid hs
            clear hs h2 hr2
            go_wp2
            go_roundg (gk - 1)
            case measure => have := HM.out; omega
            case rel => exact ⟨m + 1, r2, by have := HM.out; omega, by go_num, rfl, by rw [bitN, ← HRe.out, HS.out], rfl⟩
        · obtain rfl : m = 8 := by omega
          go_wp2
          go_roundg (go - 1)
          case measure => have := HJ.out; have := HGo.out; omega
          case rel =>
            refine ⟨j + 1, r, by have := HJ.out; have := HGo.out; omega, by go_num, rfl, ?_, rfl⟩
            rw [List.take_succ_eq_append_getElem hlt, crcFrom, List.foldl_append]
            show r = stepB (crcFrom 4294967295 (xs.take j)) (xs[j]).toNat
            rw [← HQ.out, HY.out, stepB_bits, H1.out, HRe.out]
    · have e1 : bits .xor .u32 (q : Int) 4294967295 = ((q ^^^ 4294967295 : Nat) : Int) := by
        rw [show (4294967295 : Int) = ((4294967295 : Nat) : Int) from rfl, u32_xor_nat _ _ hq (by decide)]
      have E1 := Lib.hid e1
      clear e1
      go_wp2
      go_ret
      refine ⟨?_, rfl⟩
      have hq' := HQ.out
      rw [List.take_of_length_le (by omega)] at hq'
      rw [sumL, ← hq']
      exact congrArg (fun z => Ending.returned (Value.int .u32 z)) E1.out
end Go.Proofs.YtbaombnnagidcaaDoor

namespace Go.Proofs.YtbaombnnagidcaaDoor
open Go.RowKit

section
variable {P : Program}
theorem strCells_bvs (s : ByteArray) : Lib.strCells s = bvs s.data.toList := rfl

theorem run_append_str {F : Nat → Prop} {w : World} {t : TypeId} (ts tu ty : TypeId) {i : TypeInfo} (ht : P.underlying ts = some (.slice t)) (hu : P.underlying tu = some .string) (hi : P.info? t = some i) (hz : i.zero = some (.int .u8 0)) (hsize : i.size = 1) (hby : i.bytes = 1)
    {a : Option Addr} {n c : Nat} {xs : List UInt8} (hown : Own F w t 1 a n c (bvs xs)) (hn : n ≠ 0) (s : ByteArray) (h63 : n + s.size ≤ maxLen) (hbytes : n + s.size ≤ 140737488355328) :
    ∃ a' c' w', (Builtin.append_ #[ts, tu] ty #[.slice a n c, .string s]).run P w = .ok (.slice a' (n + s.size) c') w' ∧ Own (fun k => F k ∨ Fr w w' k) w' t 1 a' (n + s.size) c' (bvs (xs ++ s.data.toList)) ∧ Upd F w w' := by
  have hsmall : n + s.size ≤ 9223372036854775807 := le_max h63
  have hl := hown.1
  have hls : s.data.toList.length = s.size := by rw [Array.length_toList]; rfl
  have hlen : (bvs (xs ++ s.data.toList)).length = (n + s.size) * 1 := by
    rw [length_bvs, List.length_append, hls]
    rw [length_bvs] at hl
    omega
  rcases hown.2 with ⟨_, h0, _⟩ | ⟨g, cur, rfl, hF, hg, hnc, hcm, hcs, htake⟩
  · exact absurd h0 hn
  · by_cases hroom : n + s.size ≤ c
    · have hr := Lib.run_append_room_string (P := P) w ts tu ty t i ht hu hi hsize g n c cur hg s hroom (by omega)
      refine ⟨_, _, _, hr, ⟨hlen, .inr ⟨g, _, rfl, .inl hF, setRow_heap w g cur _ t _ hg, hroom, hcm, ?_, ?_⟩⟩, ⟨rfl, rfl, rfl, by simp, fun k _ hk => setRow_other w g k _ (fun e => hk (e ▸ hF))⟩⟩
      · simp only [List.size_toArray, List.length_append, List.length_take, List.length_drop, Array.length_toList, Lib.strCells_length]
        omega
      · rw [Nat.mul_one] at htake
        rw [htake, strCells_bvs, ← bvs_append, ← hlen]
        exact List.take_left
    · have holds : ∀ j v, (bvs xs)[j]? = some v → w.cell? ((⟨g, 0, none⟩ : Addr).add j) = some v := by
        intro j v hv
        obtain ⟨b, o, e, _, hc⟩ := hown.row (by rintro h; rw [h] at hv; cases hv)
        obtain ⟨rfl, rfl⟩ : g = b ∧ 0 = o := by simpa using e
        rw [Addr.add_lit]
        exact hc j v hv
      have hr := Lib.run_append_grow_string (P := P) w ts tu ty t i (.int .u8 0) ht hu hi hz ⟨g, 0, none⟩ n c (bvs xs) (by rw [hsize]; exact hl) holds s (by omega) (by omega) (by rw [hby]; exact growslice_fits (by omega) (by omega))
      have hge := grownCap_ge w (n + s.size) c t
      refine ⟨_, _, _, hr, ⟨hlen, .inr ⟨w.heap.size, _, rfl, .inr ⟨Nat.le_refl _, by simp⟩, heap_alloc_new w.drew _, hge, grownCap_le_maxLen w (n + s.size) c t h63, ?_, ?_⟩⟩, ((Upd.refl F w).drew).alloc _⟩
      · have hz1 : (Value.int IntKind.u8 0).cells.size = 1 := rfl
        simp only [Array.size_append, List.size_toArray, size_zeroCells, hz1, Lib.strCells_length, hl]
        omega
      · rw [strCells_bvs]
        simp only [Array.toList_append, List.append_assoc]
        rw [← List.append_assoc, ← bvs_append, ← hlen]
        exact List.take_left

theorem wpList_append_str {ops : Array Oper} {rest : List Oper} {o : Oper} {act : Act} {Q : Exit → Act → World → Prop} {F : Nat → Prop} {w : World} {t : TypeId} (hgd : o.guard = none) (s x : Operand) (ts tu : TypeId)
    (ho : o.op = .call { callee := .builtin .append, args := #[s, x], argTypes := #[ts, tu] })
    {i : TypeInfo} (ht : P.underlying ts = some (.slice t)) (hu : P.underlying tu = some .string) (hi : P.info? t = some i) (hz : i.zero = some (.int .u8 0)) (hsize : i.size = 1) (hby : i.bytes = 1)
    {a : Option Addr} {n c : Nat} {xs : List UInt8} (hs : act.eval s = .slice a n c) (hown : Own F w t 1 a n c (bvs xs)) (hn : n ≠ 0) {str : ByteArray} (hx : act.eval x = .string str) (h63 : n + str.size ≤ maxLen) (hbytes : n + str.size ≤ 140737488355328)
    (h : ∀ a' c' w', Own (fun k => F k ∨ Fr w w' k) w' t 1 a' (n + str.size) c' (bvs (xs ++ str.data.toList)) → Upd F w w' → wpList P ops Q rest (act.put o.dst (.slice a' (n + str.size) c')) w') : wpList P ops Q (o :: rest) act w := by
  refine wpList_plain hgd fun K hK => ?_
  obtain ⟨a', c', w', hrun, h2, h3⟩ := run_append_str (P := P) ts tu o.type ht hu hi hz hsize hby hown hn str h63 hbytes
  unfold Oper.wp execOp
  simp only [ho, resolve, invoke, builtin, Sem.run_bind, Sem.run_pure, Result.andThen_ok, List.map_toArray, List.map_cons, List.map_nil, hs, hx, hrun]
  exact hK _ _ (h a' c' w' h2 h3)
end

/-- the bytes of a text with its length ahead -/
def textL (s : ByteArray) : List UInt8 := putL s.size ++ s.data.toList
theorem putZ_nat (n : Nat) : putZ (n : Int) = putL n := by rw [putZ, Int.toNat_natCast]
theorem size_toList (s : ByteArray) : s.data.toList.length = s.size := by rw [Array.length_toList]; rfl

set_option maxRecDepth 100000 in
theorem wire_Text {F : Nat → Prop} (w : World) {a : Option Addr} (c : Nat) {xs : List UInt8} (hr : Row F w a (bvs xs)) (hA : a = none → c = 0) (s : ByteArray) (hx : xs.length + s.size ≤ 140737488355000) :
    Calls Tryd.prog 15 #[.slice a xs.length c, .string s] w (RetOwn w 5 1 (xs ++ textL s).length (bvs (xs ++ textL s))) := by
  have H := Lib.hid (wire_Put w c hr hA (by omega) (s.size : Int) (by omega))
  clear hr hA
  obtain ⟨i0, hi, hz0, hz1, hz2⟩ := info_parts infoU8
  have hi0 := Lib.hid (And.intro hi (And.intro hz0 (And.intro hz1 hz2)))
  clear hi hz0 hz1 hz2
  rw [putZ_nat] at H
  have hlp := length_putL (n := s.size) (by omega)
  have hpp := length_putL_pos s.size
  obtain ⟨ys, hys⟩ : ∃ ys, xs ++ putL s.size = ys := ⟨_, rfl⟩
  have hyl : ys.length = xs.length + (putL s.size).length := by rw [← hys, List.length_append]
  have hyb : ys.length ≤ 140737488355100 - s.size := by omega
  have hy1 : ys.length ≠ 0 := by omega
  have hsz : s.size ≤ 9223372036854775807 := by omega
  rw [hys] at H
  rw [textL, ← List.append_assoc, hys, List.length_append, size_toList]
  have HY1 := Lib.hid hy1
  have HYB := Lib.hid (show ys.length + s.size ≤ 140737488355200 by omega)
  clear hlp hpp hyl hys hy1 hyb
  go_enter Tryd.func15, Tryd.ntmps15
  go_wp2_with (first
    | (go_at_call 14; refine H.out.mono ?_; rintro e w1 ⟨a1, c1, rfl, h1, h2⟩; have HO := Lib.hid h1; have HU := Lib.hid h2; clear h1 h2)
    | (at_builtin; refine wpList_append_str rfl (.tmp 8) (.tmp 9) 22 9 rfl Tryd.underlying22 Tryd.underlying9 hi0.out.1 hi0.out.2.1 hi0.out.2.2.1 hi0.out.2.2.2 rfl HO.out HY1.out rfl (by have := HYB.out; simp only [maxLen]; omega) (by have := HYB.out; omega) ?_; intro a3 c3 w3 h1 h2; have HO3 := Lib.hid h1; have HU3 := Lib.hid h2; clear h1 h2))
  go_ret
  have z1 := HU.out.size
  have z3 := HU3.out.size
  refine ⟨a3, c3, rfl, HO3.out.mono ?_, HU.out.trans HU3.out (fun k hk hlt => by have := hk.1; omega)⟩
  rintro k (h | h)
  · exact ⟨h.1, by have := h.2; omega⟩
  · exact ⟨by have := h.1; omega, h.2⟩

set_option maxRecDepth 100000 in
theorem ref_Text {F : Nat → Prop} (w : World) {a : Option Addr} (c : Nat) {xs : List UInt8} (hr : Row F w a (bvs xs)) (hA : a = none → c = 0) (s : ByteArray) (hx : xs.length + s.size ≤ 140737488355000) :
    Calls Tryd.prog 18 #[.slice a xs.length c, .string s] w (RetOwn w 5 1 (xs ++ textL s).length (bvs (xs ++ textL s))) := by
  have H := Lib.hid (ref_Put w c hr hA (by omega) (s.size : Int) (by omega))
  clear hr hA
  obtain ⟨i0, hi, hz0, hz1, hz2⟩ := info_parts infoU8
  have hi0 := Lib.hid (And.intro hi (And.intro hz0 (And.intro hz1 hz2)))
  clear hi hz0 hz1 hz2
  rw [putZ_nat] at H
  have hlp := length_putL (n := s.size) (by omega)
  have hpp := length_putL_pos s.size
  obtain ⟨ys, hys⟩ : ∃ ys, xs ++ putL s.size = ys := ⟨_, rfl⟩
  have hyl : ys.length = xs.length + (putL s.size).length := by rw [← hys, List.length_append]
  have hyb : ys.length ≤ 140737488355100 - s.size := by omega
  have hy1 : ys.length ≠ 0 := by omega
  have hsz : s.size ≤ 9223372036854775807 := by omega
  rw [hys] at H
  rw [textL, ← List.append_assoc, hys, List.length_append, size_toList]
  have HY1 := Lib.hid hy1
  have HYB := Lib.hid (show ys.length + s.size ≤ 140737488355200 by omega)
  clear hlp hpp hyl hys hy1 hyb
  go_enter Tryd.func18, Tryd.ntmps18
  go_wp2_with (first
    | (go_at_call 17; refine H.out.mono ?_; rintro e w1 ⟨a1, c1, rfl, h1, h2⟩; have HO := Lib.hid h1; have HU := Lib.hid h2; clear h1 h2)
    | (at_builtin; refine wpList_append_str rfl (.tmp 8) (.tmp 9) 22 9 rfl Tryd.underlying22 Tryd.underlying9 hi0.out.1 hi0.out.2.1 hi0.out.2.2.1 hi0.out.2.2.2 rfl HO.out HY1.out rfl (by have := HYB.out; simp only [maxLen]; omega) (by have := HYB.out; omega) ?_; intro a3 c3 w3 h1 h2; have HO3 := Lib.hid h1; have HU3 := Lib.hid h2; clear h1 h2))
  go_ret
  have z1 := HU.out.size
  have z3 := HU3.out.size
  refine ⟨a3, c3, rfl, HO3.out.mono ?_, HU.out.trans HU3.out (fun k hk hlt => by have := hk.1; omega)⟩
  rintro k (h | h)
  · exact ⟨h.1, by have := h.2; omega⟩
  · exact ⟨by have := h.1; omega, h.2⟩
end Go.Proofs.YtbaombnnagidcaaDoor

namespace Go.Proofs.YtbaombnnagidcaaDoor
open Go.RowKit

theorem run_make1 {P : Program} (t e : TypeId) {i : TypeInfo} {z : Value} {bytes : Nat} (ht : P.underlying t = some (.slice e)) (hi : P.info? e = some i) (hz : i.zero = some z) (hs : i.size = 1) (hb : i.bytes = bytes) (hc : z.cells = #[z])
    {n : Nat} (hbytes : bytes * n ≤ 281474976710656) (h63 : n ≤ 9223372036854775807) (w : World) :
    (Instr.makeSlice t (.int .i64 (n : Int)) (.int .i64 (n : Int))).run P w = .ok (.slice (some ⟨w.heap.size, 0, none⟩) n n) (w.alloc (.cells (Array.replicate n z) e)) := by
  have hr := run_make (P := P) w t e i z ht hi hz .i64 .i64 n n (by omega) (by omega) (by
    subst hb
    have h : ((i.bytes * n : Nat) : Int) ≤ 281474976710656 := by omega
    rwa [Int.natCast_mul] at h) (by omega)
  simp only [Int.toNat_natCast] at hr
  rw [hr, hs, hc, Nat.mul_one]
  congr 3
  apply Array.toList_inj.1
  rw [toList_madeCells_one, Array.toList_replicate]

/-- two results that lie in boxes -/
theorem results_cells2 {P : Program} {fn : Func} {p q : Tmp} {ty tz : TypeId} (h : fn.results = #[.cell p ty, .cell q tz]) {tmps : Array Value} {w : World} {a b : Addr} {u v : Value}
    (hp : tmps.getD p undef = .pointer (some a)) (hq : tmps.getD q undef = .pointer (some b)) (hty : (isAgg ty).run P w = .ok false w) (htz : (isAgg tz).run P w = .ok false w)
    (hu : w.cell? a = some u) (hv : w.cell? b = some v) : (results fn tmps).run P w = .ok (.tuple #[u, v]) w := by
  have hp' : tmps[p]?.getD undef = .pointer (some a) := by simpa using hp
  have hq' : tmps[q]?.getD undef = .pointer (some b) := by simpa using hq
  simp [results, h, loadVar, hp', hq', hty, htz, hu, hv, asAddr, go_sem]

theorem infoBool : (Tryd.prog.info? 4).map (fun i => (i.zero, i.size, i.bytes)) = some (some (.bool false), 1, 1) := by kernel_rfl

/-- make([]byte, n), for n as the walk spells it -/
theorem makeBytes {n : Nat} {z : Int} (hz : z = n) (hn : n ≤ 140737488355328) (w : World) :
    (Instr.makeSlice 22 (.int .i64 z) (.int .i64 z)).run Tryd.prog w = .ok (.slice (some ⟨w.heap.size, 0, none⟩) n n) (w.alloc (.cells (Array.replicate n (Value.int .u8 0)) 5)) := by
  subst hz
  obtain ⟨i0, hi, hz0, hz1, hz2⟩ := info_parts infoU8
  exact run_make1 _ _ Tryd.underlying22 hi hz0 hz1 hz2 rfl (by omega) (by omega) w

/-- a row of bytes just made -/
theorem own_zeros (w : World) {n : Nat} (hn : n ≤ maxLen) : Own (One w.heap.size) (w.alloc (.cells (Array.replicate n (Value.int .u8 0)) 5)) 5 1 (some ⟨w.heap.size, 0, none⟩) n n (bvs (List.replicate n 0)) := by
  have := Own.lit (t := 5) (sz := 1) w (Array.replicate n (Value.int .u8 0)) n hn (by simp)
  simpa [bvs, bv] using this
end Go.Proofs.YtbaombnnagidcaaDoor

namespace Go.Proofs.YtbaombnnagidcaaDoor
open Go.RowKit
theorem add_plain0 (g j : Nat) : (⟨g, 0, none⟩ : Addr).add j = ⟨g, j, none⟩ := by unfold Addr.add; split <;> simp_all
theorem setCells_far {g : Nat} : ∀ (vs : List Value) (o : Nat) {w : World} (k : Nat), k ≠ g → (w.setCells g o vs).heap[k]? = w.heap[k]?
  | [], _, _, _, _ => rfl
  | v :: r, o, w, k, hk => by
    rw [World.setCells, setCells_far r (o + 1) k hk]
    exact Below.heap_setCell w ⟨g, o, none⟩ v k hk
theorem setCells_same (g : Nat) : ∀ (vs : List Value) (o : Nat) (w : World), (w.setCells g o vs).os = w.os ∧ (w.setCells g o vs).tape = w.tape ∧ (w.setCells g o vs).output = w.output ∧ (w.setCells g o vs).heap.size = w.heap.size
  | [], _, _ => ⟨rfl, rfl, rfl, rfl⟩
  | v :: r, o, w => by
    obtain ⟨h1, h2, h3, h4⟩ := setCells_same g r (o + 1) (w.setCell ⟨g, o, none⟩ v)
    rw [World.setCells]
    exact ⟨h1, h2, h3, by rw [h4]; simp [World.setCell]⟩
theorem setCells_row {g : Nat} {e : TypeId} : ∀ (vs : List Value) (o : Nat) (w : World) (cur : Array Value), w.heap[g]? = some (.cells cur e (0, 0)) → o + vs.length ≤ cur.size →
    ∃ cur', (w.setCells g o vs).heap[g]? = some (.cells cur' e (0, 0)) ∧ cur'.size = cur.size ∧ cur'.toList = cur.toList.take o ++ vs ++ cur.toList.drop (o + vs.length)
  | [], o, w, cur, h, _ => ⟨cur, h, rfl, by simp⟩
  | v :: r, o, w, cur, h, hl => by
    have h2 := heap_setCell_same w g o cur e v h
    simp only [List.length_cons] at hl
    obtain ⟨cur', h3, h4, h5⟩ := setCells_row r (o + 1) (w.setCell ⟨g, o, none⟩ v) _ h2 (by simp; omega)
    refine ⟨cur', h3, by rw [h4]; simp, ?_⟩
    rw [h5, Array.toList_setIfInBounds]
    have ho : o < cur.toList.length := by rw [Array.length_toList]; omega
    rw [List.take_set, List.drop_set_of_lt (by omega)]
    simp only [List.length_cons]
    rw [show o + 1 + r.length = o + (r.length + 1) by omega]
    congr 1
    rw [List.take_succ_eq_append_getElem ho, List.set_append_right _ _ (by rw [List.length_take]; omega)]
    have ho' : o < cur.size := by omega
    simp [Nat.min_eq_left (Nat.le_of_lt ho')]
section
variable {P : Program}
theorem run_append_zeros (w : World) (base : Nat) (t ti ty e : TypeId) (i : TypeInfo) (z : Value) (size bytes : Nat) (ht : P.underlying t = some (.slice e)) {k : IntKind} (hti : P.underlying ti = some (.int k)) (hi : P.info? e = some i) (hz : i.zero = some z)
    (hsize : i.size = size) (hby : i.bytes = bytes) (hzs : z.cells.size = size) (hsz : 0 < size) (hb0 : 0 < bytes)
    (v : Value) (n : Nat) (xs : List Value) (hown : w.ownsRow base e size v n xs) (kx : IntKind) (m : Nat) (h1 : ∀ u ∈ (Builtin.zeroCells z.cells m).toList, u.oneCell' = true)
    (hbytes : (n + m) * bytes ≤ 140737488355328) (hbase : base ≤ w.heap.size) :
    ∃ v' w', (Builtin.append_ #[t, ti] ty #[v, .int kx m]).run P w = .ok v' w' ∧ w'.ownsRow base e size v' (n + m) (xs ++ (Builtin.zeroCells z.cells m).toList) ∧ w.grownBy w' v.ownBlock ∧
      (v'.ownBlock = v.ownBlock ∨ v'.ownBlock = some w.heap.size) := by
  subst hsize
  subst hby
  have hle : n + m ≤ 140737488355328 := Nat.le_trans (Nat.le_mul_of_pos_right _ hb0) hbytes
  have h63 : n + m ≤ maxLen := by simp only [maxLen]; omega
  have hw : IntKind.i64.wrap (m : Int) = m := by rw [IntKind.wrap_i64]; omega
  have hw0 : IntKind.i64.wrap 0 = 0 := by rw [IntKind.wrap_i64]; rfl
  have hneg : ¬ ((m : Int) < 0) := by omega
  have hmb : m * i.bytes ≤ 140737488355328 := Nat.le_trans (Nat.mul_le_mul_right _ (Nat.le_add_left m n)) hbytes
  have hbig : ¬ (281474976710656 < (m : Int) * (i.bytes : Int)) := by
    rw [← Int.natCast_mul]
    omega
  have hsn : i.size ≠ 0 := by omega
  obtain ⟨news, hnews⟩ : ∃ news, news = (Builtin.zeroCells z.cells m).toList := ⟨_, rfl⟩
  rw [← hnews] at h1 ⊢
  have hl : news.length = m * i.size := by rw [hnews, Array.length_toList, size_zeroCells, hzs]
  have hna : Builtin.zeroCells z.cells m = news.toArray := by rw [hnews]
  have hlen : (xs ++ news).length = (n + m) * i.size := by rw [List.length_append, hown.1, hl, Nat.add_mul]
  have hnil : m = 0 → news = [] := fun h => List.eq_nil_of_length_eq_zero (by rw [hl, h, Nat.zero_mul])
  have grown : ∀ (old : Nat), old < n + m → ∀ (row : Option Nat),
      (w.drew.alloc (.cells (xs.toArray ++ news.toArray ++ Builtin.zeroCells z.cells (grownCap w (n + m) old e - (n + m))) e)).ownsRow base e i.size
        (.slice (some ⟨w.heap.size, 0, none⟩) (n + m) (grownCap w (n + m) old e)) (n + m) (xs ++ news) ∧
      w.grownBy (w.drew.alloc (.cells (xs.toArray ++ news.toArray ++ Builtin.zeroCells z.cells (grownCap w (n + m) old e - (n + m))) e)) row := by
    intro old ho row
    have hge := grownCap_ge w (n + m) old e
    have hcm : grownCap w (n + m) old e ≤ maxLen := grownCap_le_maxLen w (n + m) old e h63
    refine ⟨⟨hlen, .inr ⟨w.heap.size, _, _, rfl, hbase, heap_alloc_new w.drew _, hge, hcm, ?_, ?_⟩⟩, ⟨rfl, rfl, rfl, by simp, fun k hk _ => heap_alloc_old w.drew _ hk⟩⟩
    · simp only [Array.size_append, List.size_toArray, size_zeroCells, hzs, hown.1, hl, ← Nat.add_mul]
      congr 1
      omega
    · simp only [Array.toList_append, List.append_assoc]
      rw [← List.append_assoc, ← hlen]
      exact List.take_left
  have runs : ∀ (A : Option Addr) (cap : Nat), cap < n + m → (Builtin.firstCells i.size n (.slice A n cap)).run P w.drew = .ok xs.toArray w.drew → (Builtin.append_ #[t, ti] ty #[.slice A n cap, .int kx m]).run P w =
      .ok (.slice (some ⟨w.heap.size, 0, none⟩) (n + m) (grownCap w (n + m) cap e)) (w.drew.alloc (.cells (xs.toArray ++ news.toArray ++ Builtin.zeroCells z.cells (grownCap w (n + m) cap e - (n + m))) e)) := by
    intro A cap hcap hfo
    have hn : ¬ (n + m ≤ cap) := by omega
    have h63' : ¬ (9223372036854775807 < ((n : Int) + (m : Int))) := by omega
    have hfit := growslice_fits hcap hbytes
    have h48' : ¬ (281474976710656 < Builtin.nextslicecap (n + m) cap * i.bytes) := by omega
    by_cases hm : m = 0
    · have hnl := hnil hm
      subst hm
      rw [hnl]
      simp only [Nat.add_zero] at hn h63' h48' ⊢
      have h63'' : ¬ (9223372036854775807 < (n : Int)) := by omega
      simp [Builtin.append_, run_underlying ht, run_underlying hti, sizeOf, typeInfo, zeroValue, hi, hz, asInt, asIntOf, hw0, hn, h63'', h48', Question.forced, hfo, newRow, grownCap]
    · have hmz : ¬ (m * i.size = 0) := Nat.mul_ne_zero hm hsn
      simp [Builtin.append_, run_underlying ht, run_underlying hti, sizeOf, typeInfo, zeroValue, hi, hz, asInt, asIntOf, hw, hneg, hbig, hn, h63', h48', Question.forced, hfo, newRow, grownCap, hmz, hna]
      congr 2
      apply Array.ext'
      simp [List.append_assoc]
  rcases hown.2 with ⟨rfl, rfl⟩ | ⟨g, cap, cur, rfl, hbg, hg, hnc, hcm, hcs, htake⟩
  · have hx : xs = [] := List.eq_nil_of_length_eq_zero (by simpa using hown.1)
    subst hx
    by_cases hm : m = 0
    · have hnl := hnil hm
      subst hm
      rw [hnl]
      refine ⟨.slice none 0 0, w, ?_, World.ownsRow_nil w base e i.size, ⟨rfl, rfl, rfl, Nat.le_refl _, fun _ _ _ => rfl⟩, Or.inl rfl⟩
      simp [Builtin.append_, run_underlying ht, run_underlying hti, sizeOf, typeInfo, hi, asInt, asIntOf, hw0]
    · have hgr := grown 0 (by omega) (Value.ownBlock (.slice none 0 0))
      exact ⟨_, _, runs none 0 (by omega) (by simp [Builtin.firstCells]), hgr.1, hgr.2, Or.inr rfl⟩
  · by_cases hroom : n + m ≤ cap
    · have hfit : n * i.size + news.length ≤ cur.size := by rw [hl, hcs, ← Nat.add_mul]; exact Nat.mul_le_mul_right _ hroom
      obtain ⟨cur', h3, h4, h5⟩ := setCells_row news (n * i.size) w cur hg hfit
      obtain ⟨s1, s2, s3, s4⟩ := setCells_same g news (n * i.size) w
      have hst := run_storeCells_cells (P := P) g (n * i.size) news 0 w (fun j hj => by rw [cell_of_row w g _ cur e (0, 0) hg]; simp; omega) (fun j _ => frozen_of_row w g _ cur e hg) h1
      simp only [Nat.add_zero] at hst
      refine ⟨.slice (some ⟨g, 0, none⟩) (n + m) cap, w.setCells g (n * i.size) news, ?_, ⟨hlen, .inr ⟨g, cap, cur', rfl, hbg, h3, hroom, hcm, by rw [h4, hcs], ?_⟩⟩, ⟨s1, s2, s3, by rw [s4]; exact Nat.le_refl _, fun k _ hk => setCells_far news _ k (fun e => hk (by simp [Value.ownBlock, e]))⟩, Or.inl rfl⟩
      · by_cases hm : m = 0
        · have hnl := hnil hm
          subst hm
          rw [hnl] at hst ⊢
          simp [Builtin.append_, run_underlying ht, run_underlying hti, sizeOf, typeInfo, hi, asInt, asIntOf, hw0, hnc, add_plain0, hst]
        · have hmz : ¬ (m * i.size = 0) := Nat.mul_ne_zero hm hsn
          simp [Builtin.append_, run_underlying ht, run_underlying hti, sizeOf, typeInfo, zeroValue, hi, hz, asInt, asIntOf, hw, hneg, hbig, hroom, hmz, hna, add_plain0, hst]
      · rw [h5]
        have h6 : cur.toList.take (n * i.size) = xs := htake
        rw [h6, ← hlen]
        exact List.take_left
    · have holds : ∀ j u, xs[j]? = some u → w.cell? ((⟨g, 0, none⟩ : Addr).add j) = some u := hown.cells (g := g) rfl
      have hgr := grown cap (by omega) (Value.ownBlock (.slice (some ⟨g, 0, none⟩) n cap))
      exact ⟨_, _, runs (some ⟨g, 0, none⟩) cap (by omega) (run_firstCells_some (P := P) w.drew i.size n _ n cap xs hown.1 (by simpa using holds)), hgr.1, hgr.2, Or.inr rfl⟩

theorem zeroBytesList (m : Nat) : (Builtin.zeroCells #[.int .u8 0] m).toList = bvs (List.replicate m 0) := by
  rw [show Builtin.zeroCells #[.int .u8 0] m = madeCells #[.int .u8 0] m by unfold Builtin.zeroCells madeCells; simp, toList_madeCells_one]
  simp [bvs, bv]

/-- The same as one step of a region that draws: bytes. -/
theorem step_append_zeros {ops : Array Oper} {o : Oper} {act : Act} {K : Act → World → Prop} {Q : Exit → Act → World → Prop} {E : Prop} {F : Nat → Prop} {w : World} {t : TypeId} (hgd : o.guard = none) (s x : Operand) (ts ti : TypeId)
    (ho : o.op = .call { callee := .builtin .append, args := #[s, x], argTypes := #[ts, ti] })
    {i : TypeInfo} (ht : P.underlying ts = some (.slice t)) {k : IntKind} (hti : P.underlying ti = some (.int k)) (hi : P.info? t = some i) (hz : i.zero = some (.int .u8 0))
    (hsize : i.size = 1) (hby : i.bytes = 1) {a : Option Addr} {n c : Nat} {xs : List UInt8} (hs : act.eval s = .slice a n c) (hown : Own F w t 1 a n c (bvs xs))
    {kx : IntKind} {z : Int} {m : Nat} (hx : act.eval x = .int kx z) (hzm : z = m) (hbytes : n + m ≤ 140737488355328)
    (h : ∀ a' c' w', Own (fun k => F k ∨ Fr w w' k) w' t 1 a' (n + m) c' (bvs (xs ++ List.replicate m 0)) → Upd F w w' → K (act.put o.dst (.slice a' (n + m) c')) w') :
    if Region.wanted o (yielded ops act.tmps) = true then Oper.wp P o act w K Q else E := by
  have hw : Region.wanted o (yielded ops act.tmps) = true := by simp [Region.wanted, hgd]
  rw [if_pos hw]
  subst hzm
  have hcells : (Value.int .u8 0).cells = #[.int .u8 0] := rfl
  obtain ⟨v', w', r1, r2, r3, r4⟩ := run_append_zeros (P := P) w 0 ts ti o.type t i _ 1 1 ht hti hi hz hsize hby rfl (by decide) (by decide) _ n _ hown.ownsRow kx m (by
    rw [hcells, zeroBytesList]
    exact bvs_one _) (by omega) (Nat.zero_le _)
  rw [hcells, zeroBytesList, ← bvs_append] at r2
  have hF : ∀ k, (Value.slice a n c).ownBlock = some k → F k := by
    intro k hk
    rcases hown.2 with ⟨rfl, _, _⟩ | ⟨g, cur, rfl, h2, _⟩
    · simp [Value.ownBlock] at hk
    · simp [Value.ownBlock] at hk
      exact hk ▸ h2
  obtain ⟨a', c', rfl, hown'⟩ := Own.ofRow (F := fun k => F k ∨ Fr w w' k) r2 (fun k hk => by
    have hlt := (r2.lt k hk).2
    rcases r4 with e | e
    · rw [e] at hk
      exact .inl (hF k hk)
    · rw [e] at hk
      injection hk with hk
      exact .inr ⟨by omega, hlt⟩)
  unfold Oper.wp execOp
  simp only [ho, resolve, invoke, builtin, Sem.run_bind, Sem.run_pure, Result.andThen_ok, List.map_toArray, List.map_cons, List.map_nil, hs, hx, r1]
  exact h a' c' w' hown' (Upd.ofGrown r3 (fun k hk => .inl (hF k hk)))
end
end Go.Proofs.YtbaombnnagidcaaDoor

namespace Go.Proofs.YtbaombnnagidcaaDoor
open Go.RowKit

/-- a sum's bytes -/
def fourL (n : Nat) : List UInt8 := [UInt8.ofNat (n % 256), UInt8.ofNat (n / 256 % 256), UInt8.ofNat (n / 65536 % 256), UInt8.ofNat (n / 16777216 % 256)]
theorem length_fourL (n : Nat) : (fourL n).length = 4 := rfl
theorem byteAt (m : Nat) : Value.int .u8 ((m : Int) % 256) = bv (UInt8.ofNat (m % 256)) := by
  rw [bv, toNat_ofNat8 (by omega)]
  congr 1
theorem fourL_bvs (n : Nat) : [Value.int .u8 ((n : Int) % 256), Value.int .u8 ((n : Int) / 256 % 256), Value.int .u8 ((n : Int) / 65536 % 256), Value.int .u8 ((n : Int) / 16777216 % 256)] = bvs (fourL n) := by
  have e1 := byteAt n
  have e2 := byteAt (n / 256)
  have e3 := byteAt (n / 65536)
  have e4 := byteAt (n / 16777216)
  show _ = [bv _, bv _, bv _, bv _]
  rw [← e1, ← e2, ← e3, ← e4]
  rfl
theorem fourL_inj {m n : Nat} (hm : m < 4294967296) (hn : n < 4294967296) (h : fourL m = fourL n) : m = n := by
  unfold fourL at h
  simp only [List.cons.injEq, and_true] at h
  obtain ⟨h1, h2, h3, h4⟩ := h
  have g : ∀ {a b : Nat}, a < 256 → b < 256 → UInt8.ofNat a = UInt8.ofNat b → a = b := fun ha hb e => by
    have := congrArg UInt8.toNat e
    rwa [toNat_ofNat8 ha, toNat_ofNat8 hb] at this
  have h1 := g (by omega) (by omega) h1
  have h2 := g (by omega) (by omega) h2
  have h3 := g (by omega) (by omega) h3
  have h4 := g (by omega) (by omega) h4
  omega

theorem wire_sum4 {F : Nat → Prop} (w : World) {a : Option Addr} (c : Nat) {xs : List UInt8} (hr : Row F w a (bvs xs)) (hx : xs.length ≤ 9223372036854775807) (ht : Tab w) :
    Calls Tryd.prog 55 #[.slice a xs.length c] w (RetOwn w 5 1 4 (bvs (fourL (sumL xs)))) := by
  have H := Lib.hid (wire_Sum w c hr hx ht)
  have hl := sumL_lt xs
  clear hr ht
  obtain ⟨n, hn⟩ : ∃ n, sumL xs = n := ⟨_, rfl⟩
  rw [hn] at H hl ⊢
  clear hn
  go_enter Tryd.func55, Tryd.ntmps55
  go_wp2_with (go_at_call 19; refine H.out.mono ?_; rintro e w' ⟨rfl, rfl⟩)
  go_ret
  refine ⟨some ⟨w.heap.size, 0, none⟩, 4, rfl, ?_, (Upd.refl Nil w).alloc _⟩
  have := Own.lit (t := 5) (sz := 1) w #[Value.int .u8 ((n : Int) % 256), Value.int .u8 ((n : Int) / 256 % 256), Value.int .u8 ((n : Int) / 65536 % 256), Value.int .u8 ((n : Int) / 16777216)] 4 (by decide) rfl
  rw [← fourL_bvs, show (n : Int) / 16777216 % 256 = (n : Int) / 16777216 by omega]
  exact this.mono (fun k hk => by subst hk; exact ⟨Nat.le_refl _, by simp⟩)

section
variable {P : Program}
theorem wpList_append_zeros {ops : Array Oper} {rest : List Oper} {o : Oper} {act : Act} {Q : Exit → Act → World → Prop} {F : Nat → Prop} {w : World} {t : TypeId} (hgd : o.guard = none) (s x : Operand) (ts ti : TypeId)
    (ho : o.op = .call { callee := .builtin .append, args := #[s, x], argTypes := #[ts, ti] })
    {i : TypeInfo} (ht : P.underlying ts = some (.slice t)) {k : IntKind} (hti : P.underlying ti = some (.int k)) (hi : P.info? t = some i) (hz : i.zero = some (.int .u8 0))
    (hsize : i.size = 1) (hby : i.bytes = 1) {a : Option Addr} {n c : Nat} {xs : List UInt8} (hs : act.eval s = .slice a n c) (hown : Own F w t 1 a n c (bvs xs))
    {kx : IntKind} {z : Int} {m : Nat} (hx : act.eval x = .int kx z) (hzm : z = m) (hbytes : n + m ≤ 140737488355328)
    (h : ∀ a' c' w', Own (fun k => F k ∨ Fr w w' k) w' t 1 a' (n + m) c' (bvs (xs ++ List.replicate m 0)) → Upd F w w' → wpList P ops Q rest (act.put o.dst (.slice a' (n + m) c')) w') : wpList P ops Q (o :: rest) act w := by
  refine wpList_plain hgd fun K hK => ?_
  have := step_append_zeros (P := P) (ops := ops) (K := K) (Q := Q) (E := True) hgd s x ts ti ho ht hti hi hz hsize hby hs hown hx hzm hbytes (fun a' c' w' h1 h2 => hK _ _ (h a' c' w' h1 h2))
  rwa [if_pos (by simp [Region.wanted, hgd])] at this
end

/-- room of one's own, nothing in it -/
def GotRoom (w : World) (e : Ending) (w' : World) : Prop := ∃ a c, e = .returned (.slice a 0 c) ∧ Own (Fr w w') w' 5 1 a 0 c (bvs []) ∧ Upd Nil w w'

theorem grow_nil (w : World) {n : Nat} (h1 : 1 ≤ n) (hn : n ≤ 140737488355328) : Calls Tryd.prog 94 #[.slice none 0 0, .int .i64 n] w (GotRoom w) := by
  obtain ⟨i0, hi, hz0, hz1, hz2⟩ := info_parts infoU8
  have hi0 := Lib.hid (And.intro hi (And.intro hz0 (And.intro hz1 hz2)))
  clear hi hz0 hz1 hz2
  go_enter Tryd.func94, Tryd.ntmps94
  go_wp2_with (at_builtin; refine wpList_append_zeros rfl (.tmp 20) (.tmp 21) 22 3 rfl Tryd.underlying22 Tryd.underlying3 hi0.out.1 hi0.out.2.1 hi0.out.2.2.1 hi0.out.2.2.2 (xs := []) rfl (Own.none_ (Fr w w) w 5 1) (m := n) rfl (by first | rfl | omega) (by omega) ?_
               intro a2 c2 w2 g1 g2; have hle := g1.le; have HO := Lib.hid g1; have HU := Lib.hid g2; clear g1 g2)
  go_ret
  have z := HU.out.size
  refine ⟨a2, c2, rfl, (HO.out.shorten (Nat.zero_le _)).mono ?_, HU.out.trans (Upd.refl Nil w2) (fun _ f _ => f.elim) |>.mono ?_⟩
  · rintro k (h | h)
    · exact ⟨h.1, by have := h.2; omega⟩
    · exact h
  · intro k h
    have := h.1
    have := h.2
    omega

/-- parts, one behind the other -/
def GotCat (w : World) (xs : List UInt8) (e : Ending) (w' : World) : Prop := RetOwn w 5 1 xs.length (bvs xs) e w'
theorem flatten_take_succ {xss : List (List UInt8)} {j : Nat} (h : j < xss.length) : (xss.take (j + 1)).flatten = (xss.take j).flatten ++ xss[j] := by
  rw [List.take_succ_eq_append_getElem h, List.flatten_append]
  simp
theorem flatten_take_le (xss : List (List UInt8)) (j : Nat) : (xss.take j).flatten.length ≤ xss.flatten.length := by
  conv => rhs; rw [← List.take_append_drop j xss, List.flatten_append, List.length_append]
  omega

set_option maxRecDepth 100000 in
set_option maxHeartbeats 1000000 in
theorem concat {F E : Nat → Prop} (w : World) {A : Option Addr} {n c : Nat} {vs : List Value} {xss : List (List UInt8)} (hA : Row F w A vs) (hall : All2 (Elem E w) vs xss) (hn : xss.length = n) (hn2 : n ≤ 1000) (hl : xss.flatten.length ≤ 140737488355328) (h1 : 1 ≤ xss.flatten.length) :
    Calls Tryd.prog 54 #[.slice A n c] w (GotCat w xss.flatten) := by
  have HA := Lib.hid hA
  have HAll := Lib.hid hall
  subst hn
  obtain ⟨i0, hi, hz0, hz1, hz2⟩ := info_parts infoU8
  have hi0 := Lib.hid (And.intro hi (And.intro hz0 (And.intro hz1 hz2)))
  have HL := Lib.hid hl
  have H1 := Lib.hid h1
  clear hi hz0 hz1 hz2 hA hall hl h1
  go_enter Tryd.func54, Tryd.ntmps54
  go_wp2
  go_loopg [3, 11] xss.length (fun k v i wr => ∃ j t : Nat, j + k = xss.length ∧ i = .int .i64 j ∧ v = .int .i64 (t : Int) ∧ t = (xss.take j).flatten.length ∧ w = wr)
  case atStart => exact ⟨0, 0, by omega, rfl, rfl, by simp, rfl⟩
  case round =>
    obtain ⟨j, t, hjk, rfl, rfl, ht, rfl⟩ := hrel
    have hjn : j ≤ xss.length := by omega
    have htl : t ≤ 140737488355328 := by have := flatten_take_le xss j; have := HL.out; omega
    have HJ := Lib.hid hjk
    have HTt := Lib.hid ht
    clear hjk ht
    by_cases hlt : j < xss.length
    · obtain ⟨v, hv, a, ca, rfl, ra, na, la, ma⟩ := HAll.out.get hlt
      obtain ⟨b, o, rfl, _, hcell⟩ := rowAt HA.out hv
      have hft := flatten_take_succ hlt
      have hfl := flatten_take_le xss (j + 1)
      rw [hft, List.length_append, ← HTt.out] at hfl
      have hxl : t + (xss[j]).length ≤ 140737488355328 := by have := HL.out; omega
      have HFt := Lib.hid hft
      clear hv ra na la ma hft hfl
      go_wp2
      go_roundg (gk - 1)
      case measure => have := HJ.out; omega
      case rel => exact ⟨j + 1, t + (xss[j]).length, by have := HJ.out; omega, by go_num, by go_num, by rw [HFt.out, List.length_append, ← HTt.out], rfl⟩
    · obtain rfl : j = xss.length := by omega
      have htt := HTt.out
      rw [List.take_length] at htt
      have ht1 : 1 ≤ t := by have := H1.out; omega
      clear htt
      go_wp2_with (go_at_call 94; refine (grow_nil _ (n := t) ht1 htl).mono ?_; rintro e w1 ⟨a1, c1, rfl, g1, g2⟩; have HO := Lib.hid g1; have HU := Lib.hid g2; clear g1 g2)
      go_loopg [6, 27] xss.length (fun k v i wr => ∃ j : Nat, j + k = xss.length ∧ i = .int .i64 j ∧ ∃ a c t, v = .slice a t c ∧ t = (xss.take j).flatten.length ∧ Own (Fr w wr) wr 5 1 a t c (bvs (xss.take j).flatten) ∧ Upd Nil w wr)
      case atStart => exact ⟨0, by omega, rfl, a1, c1, 0, rfl, rfl, HO.out, HU.out⟩
      case round =>
        obtain ⟨j, hjk, rfl, a2, c2, t2, rfl, ht2, hown, hup⟩ := hrel
        have hjn : j ≤ xss.length := by omega
        have htl2 : t2 ≤ 140737488355328 := by have := flatten_take_le xss j; have := HL.out; omega
        have HJ2 := Lib.hid hjk
        have HT2 := Lib.hid ht2
        have HO2 := Lib.hid hown
        have HU2 := Lib.hid hup
        clear hjk ht2 hown hup
        by_cases hlt : j < xss.length
        · obtain ⟨v, hv, a, ca, rfl, ra, na, la, ma⟩ := HAll.out.get hlt
          obtain ⟨b, o, rfl, _, hcell0⟩ := rowAt HA.out hv
          have hcell := HU2.out.cell hcell0 (fun f => f)
          have hft := flatten_take_succ hlt
          have hfl := flatten_take_le xss (j + 1)
          rw [hft, List.length_append, ← HT2.out] at hfl
          have hxl : t2 + (xss[j]).length ≤ 140737488355328 := by have := HL.out; omega
          have HFt := Lib.hid hft
          have HRa := Lib.hid (ra.keep HU2.out)
          have HNa := Lib.hid na
          clear hv ra na la ma hft hfl hcell0
          go_wp2_with (at_builtin; refine wpList_append_Own rfl (.tmp 31) (.tmp 32) 22 rfl Tryd.underlying22 hi0.out.1 hi0.out.2.1 hi0.out.2.2.1 hi0.out.2.2.2 rfl (by decide) rfl HO2.out rfl HRa.out (by simp) (bvs_one _) HNa.out (by simp only [maxLen]; omega) (by omega) ?_; intro a3 c3 w3 g1 g2 _; have HO3 := Lib.hid g1; have HU3 := Lib.hid g2; clear g1 g2)
          go_roundg (gk - 1)
          case measure => have := HJ2.out; omega
          case rel =>
            have z0 := HU2.out.size
            have z1 := HU3.out.size
            refine ⟨j + 1, by have := HJ2.out; omega, by go_num, a3, c3, t2 + (xss[j]).length, rfl, by rw [HFt.out, List.length_append, ← HT2.out], ?_, HU2.out.trans HU3.out (fun k hk hlt => by have := hk.1; omega)⟩
            rw [HFt.out, bvs_append]
            refine Own.mono HO3.out ?_
            rintro k (h | h)
            · exact ⟨h.1, by have := h.2; omega⟩
            · exact ⟨by have := h.1; omega, h.2⟩
        · obtain rfl : j = xss.length := by omega
          have ht2 := HT2.out
          have ho := HO2.out
          rw [List.take_length] at ht2 ho
          subst ht2
          have HO3 := Lib.hid ho
          clear ho
          go_wp2
          go_ret
          exact ⟨a2, c2, rfl, HO3.out, HU2.out⟩
end Go.Proofs.YtbaombnnagidcaaDoor
