/- Numbers as bytes: Put, of the program and of the document. -/
import Derived.Test.YtbaombnnagidcaaDoorGrow
import Derived.IntWalk
import Derived.Laws.BitsAll
namespace Go.Proofs.YtbaombnnagidcaaDoor
open Go.RowKit

/-- the bytes of a number -/
def putL (n : Nat) : List UInt8 := if n < 128 then [UInt8.ofNat n] else UInt8.ofNat (n % 128 + 128) :: putL (n / 128)
theorem putL_small {n : Nat} (h : n < 128) : putL n = [UInt8.ofNat n] := by rw [putL, if_pos h]
theorem putL_big {n : Nat} (h : ¬ n < 128) : putL n = UInt8.ofNat (n % 128 + 128) :: putL (n / 128) := by rw [putL, if_neg h]
theorem length_putL_le : ∀ (k n : Nat), n < 128 ^ (k + 1) → (putL n).length ≤ k + 1
  | 0, n, h => by rw [putL_small (by simpa using h)]; simp
  | k + 1, n, h => by
    by_cases hs : n < 128
    · rw [putL_small hs]; simp
    · rw [putL_big hs, List.length_cons]
      have := length_putL_le k (n / 128) (by rw [Nat.pow_succ] at h; omega)
      omega
theorem length_putL {n : Nat} (h : n < 9223372036854775808) : (putL n).length ≤ 9 := length_putL_le 8 n (by omega)
theorem length_putL_pos (n : Nat) : 1 ≤ (putL n).length := by
  by_cases h : n < 128
  · rw [putL_small h]; simp
  · rw [putL_big h]; simp

theorem toNat_ofNat8 {m : Nat} (h : m < 256) : (UInt8.ofNat m).toNat = m := by
  rw [UInt8.toNat_ofNat']
  exact Nat.mod_eq_of_lt (by omega)
theorem or128 (k : Nat) : Value.int .u8 (bits .or .u8 ((k : Int) % 256) 128) = bv (UInt8.ofNat (k % 128 + 128)) := by
  have e : ((k : Int) % 256) = ((k % 256 : Nat) : Int) := by omega
  have e2 : ∀ m : Fin 256, (m.1 ||| 128) = m.1 % 128 + 128 := by decide +kernel
  rw [bv, toNat_ofNat8 (by omega), e, show (128 : Int) = ((128 : Nat) : Int) from rfl, u8_or_nat _ _ (by omega) (by omega), e2 ⟨k % 256, by omega⟩]
  show Value.int .u8 (((k % 256 % 128 + 128 : Nat)) : Int) = _
  congr 1
  omega
theorem add128 (k : Nat) : Value.int .u8 ((k : Int) % 128 + 128) = bv (UInt8.ofNat (k % 128 + 128)) := by
  rw [bv, toNat_ofNat8 (by omega)]
  congr 1
theorem low128 {k : Nat} (h : k < 128) : Value.int .u8 (k : Int) = bv (UInt8.ofNat k) := by
  rw [bv, toNat_ofNat8 (by omega)]

theorem ownCell {F : Nat → Prop} {w : World} {t : TypeId} {g n c : Nat} {cs : List Value} (h : Own F w t 1 (some ⟨g, 0, none⟩) n c cs) {i : Nat} {v : Value} (hv : cs[i]? = some v) : w.cell? ⟨g, i, none⟩ = some v := by
  obtain ⟨b, o, e, _, hc⟩ := h.row (by rintro rfl; simp at hv)
  obtain ⟨rfl, rfl⟩ : g = b ∧ 0 = o := by simpa using e
  simpa using hc i v hv

/-- a number that may be less than nought, as Put takes it -/
def putZ (z : Int) : List UInt8 := putL z.toNat
theorem length_putZ {z : Int} (h : z < 9223372036854775808) : (putZ z).length ≤ 9 := length_putL (by omega)

set_option maxRecDepth 100000 in
set_option maxHeartbeats 1000000 in
theorem wire_Put {F : Nat → Prop} (w : World) {a : Option Addr} (c : Nat) {xs : List UInt8} (hr : Row F w a (bvs xs)) (hA : a = none → c = 0) (hx : xs.length ≤ 140737488355000) (z : Int) (hz : z < 9223372036854775808) :
    Calls Tryd.prog 14 #[.slice a xs.length c, .int .i64 z] w (RetOwn w 5 1 (xs ++ putZ z).length (bvs (xs ++ putZ z))) := by
  have HR := Lib.hid hr
  have HAn := Lib.hid hA
  clear hr hA
  obtain ⟨i0, hi, hz0, hz1, hz2⟩ := info_parts infoU8
  have hi0 := Lib.hid (And.intro hi (And.intro hz0 (And.intro hz1 hz2)))
  clear hi hz0 hz1 hz2
  obtain ⟨n, hn, hzn⟩ : ∃ n : Nat, n < 9223372036854775808 ∧ (z = (n : Int) ∨ z < 0 ∧ n = 0) := by
    by_cases h : z < 0
    · exact ⟨0, by decide, .inr ⟨h, rfl⟩⟩
    · exact ⟨z.toNat, by omega, .inl (by omega)⟩
  have hpz : putZ z = putL n := by
    unfold putZ
    congr 1
    omega
  rw [hpz]
  clear hpz hz
  rcases hzn with rfl | ⟨hz0, h0⟩
  case' inr => have H0 := Lib.hid h0; clear h0
  all_goals
    go_enter Tryd.func14, Tryd.ntmps14
    go_wp2_with (go_at_call 53; refine (slicesCloneB _ c HR.out (by omega)).mono ?_; rintro e w1 ⟨a1, c1, rfl, h1, h2⟩; have HO := Lib.hid h1; have HU := Lib.hid h2; clear h1 h2)
    go_loopg [1, 5] n (fun k v s wr => ∃ ys a1 c1, v = .int .i64 (k : Nat) ∧ s = .slice a1 (List.length ys) c1 ∧ ys ++ putL k = xs ++ putL n ∧ k ≤ n ∧ Own (Fr w wr) wr 5 1 a1 ys.length c1 (bvs ys) ∧ Upd Nil w wr)
    case atStart => exact ⟨xs, a1, c1, by first | rfl | (rw [H0.out]; rfl), rfl, rfl, Nat.le_refl _, HO.out, HU.out⟩
    case round =>
      obtain ⟨ys, a2, c2, rfl, rfl, he, hkn, hown, hup⟩ := hrel
      have hlen := congrArg List.length he
      rw [List.length_append, List.length_append] at hlen
      have hpn := length_putL hn
      have hyl : ys.length ≤ 140737488355100 := by omega
      have HE := Lib.hid he
      have HO2 := Lib.hid hown
      have HU2 := Lib.hid hup
      clear he hown hup hlen hpn
      by_cases hk : 127 < gk
      · go_wp2_with (at_builtin; refine wpList_append_Own rfl (.tmp 14) (.tmp 18) 22 rfl Tryd.underlying22 hi0.out.1 hi0.out.2.1 hi0.out.2.2.1 hi0.out.2.2.2 rfl (by decide) rfl (HO2.out.alloc _) rfl (one_row wr _ _) (by simp) (by simp [Value.oneCell']) (by intro h; cases h) (by simp only [maxLen]; omega) (by omega) ?_; intro a3 c3 w3 h1 h2 _; have HO3 := Lib.hid h1; have HU3 := Lib.hid h2; clear h1 h2)
        go_roundg (gk / 128)
        case measure => omega
        case rel =>
          have ho := HO3.out
          rw [or128] at ho
          have z0 := HU2.out.size
          have z3 := HU3.out.size
          simp only [World.size_alloc] at z3
          refine ⟨ys ++ [UInt8.ofNat (gk % 128 + 128)], a3, c3, by go_num, by rw [List.length_append]; rfl, ?_, by omega, ?_, (HU2.out.alloc _).trans HU3.out (fun k hk hlt => by have := hk.1; omega)⟩
          · rw [List.append_assoc, List.singleton_append, ← putL_big (by omega)]
            exact HE.out
          · rw [List.length_append, bvs_append]
            refine Own.mono ho ?_
            rintro k (h | h)
            · exact ⟨h.1, by have := h.2; omega⟩
            · have h1 := h.1
              simp only [World.size_alloc] at h1
              exact ⟨by omega, h.2⟩
      · go_wp2_with (at_builtin; refine wpList_append_Own rfl (.tmp 20) (.tmp 23) 22 rfl Tryd.underlying22 hi0.out.1 hi0.out.2.1 hi0.out.2.2.1 hi0.out.2.2.2 rfl (by decide) rfl (HO2.out.alloc _) rfl (one_row wr _ _) (by simp) (by simp [Value.oneCell']) (by intro h; cases h) (by simp only [maxLen]; omega) (by omega) ?_; intro a3 c3 w3 h1 h2 _; have HO3 := Lib.hid h1; have HU3 := Lib.hid h2; clear h1 h2)
        go_ret
        have ho := HO3.out
        rw [low128 (by omega)] at ho
        have z0 := HU2.out.size
        have z3 := HU3.out.size
        simp only [World.size_alloc] at z3
        have he := HE.out
        rw [putL_small (by omega)] at he
        rw [← he]
        refine ⟨a3, c3, by rw [List.length_append]; rfl, ?_, (HU2.out.alloc _).trans HU3.out (fun k hk hlt => by have := hk.1; omega)⟩
        rw [List.length_append, bvs_append]
        refine Own.mono ho ?_
        rintro k (h | h)
        · exact ⟨h.1, by have := h.2; omega⟩
        · have h1 := h.1
          simp only [World.size_alloc] at h1
          exact ⟨by omega, h.2⟩

/-- bytes appended onto a row of no element -/
theorem put_start {w w1 : World} {a1 : Option Addr} {c1 : Nat} {xs : List UInt8} (h : Own (fun k => Fr w (w.alloc (.cells #[] 5)) k ∨ Fr (w.alloc (.cells #[] 5)) w1 k) w1 5 1 a1 (0 + xs.length) c1 ([] ++ bvs xs)) (u : Upd (Fr w (w.alloc (.cells #[] 5))) (w.alloc (.cells #[] 5)) w1) :
    Own (Fr w w1) w1 5 1 a1 xs.length c1 (bvs xs) := by
  rw [Nat.zero_add, List.nil_append] at h
  refine h.mono ?_
  rintro k (⟨h1, h2⟩ | ⟨h1, h2⟩)
  · exact ⟨h1, Nat.lt_of_lt_of_le h2 u.size⟩
  · exact ⟨by simp at h1; omega, h2⟩
theorem put_start_upd {w w1 : World} (u : Upd (Fr w (w.alloc (.cells #[] 5))) (w.alloc (.cells #[] 5)) w1) : Upd Nil w w1 :=
  ((Upd.refl Nil w).alloc _).trans u (fun k h1 h2 => by have := h1.1; omega)

set_option maxRecDepth 100000 in
set_option maxHeartbeats 1000000 in
theorem ref_Put {F : Nat → Prop} (w : World) {a : Option Addr} (c : Nat) {xs : List UInt8} (hr : Row F w a (bvs xs)) (hA : a = none → c = 0) (hx : xs.length ≤ 140737488355000) (z : Int) (hz : z < 9223372036854775808) :
    Calls Tryd.prog 17 #[.slice a xs.length c, .int .i64 z] w (RetOwn w 5 1 (xs ++ putZ z).length (bvs (xs ++ putZ z))) := by
  have HR := Lib.hid hr
  have HAn := Lib.hid hA
  clear hr hA
  obtain ⟨i0, hi, hz0, hz1, hz2⟩ := info_parts infoU8
  have hi0 := Lib.hid (And.intro hi (And.intro hz0 (And.intro hz1 hz2)))
  clear hi hz0 hz1 hz2
  obtain ⟨n, hn, hzn⟩ : ∃ n : Nat, n < 9223372036854775808 ∧ (z = (n : Int) ∨ z < 0 ∧ n = 0) := by
    by_cases h : z < 0
    · exact ⟨0, by decide, .inr ⟨h, rfl⟩⟩
    · exact ⟨z.toNat, by omega, .inl (by omega)⟩
  have hpz : putZ z = putL n := by
    unfold putZ
    congr 1
    omega
  rw [hpz]
  clear hpz hz
  rcases hzn with rfl | ⟨hz0, h0⟩
  case' inr => have H0 := Lib.hid h0; clear h0
  all_goals
    go_enter Tryd.func17, Tryd.ntmps17
    go_wp2_with (at_builtin; refine wpList_append_Own rfl (.tmp 6) (.tmp 7) 22 rfl Tryd.underlying22 hi0.out.1 hi0.out.2.1 hi0.out.2.2.1 hi0.out.2.2.2 rfl (by decide) rfl (own_empty w) rfl (HR.out.alloc _) (by simp) (bvs_one xs) HAn.out (by simp only [maxLen]; omega) (by omega) ?_; intro a1 c1 w1 h1 h2 _; have HO := Lib.hid (put_start h1 h2); have HU := Lib.hid (put_start_upd h2); clear h1 h2; rw [Nat.zero_add])
    go_loopg [1, 5] n (fun k v s wr => ∃ ys a1 c1, v = .int .i64 (k : Nat) ∧ s = .slice a1 (List.length ys) c1 ∧ ys ++ putL k = xs ++ putL n ∧ k ≤ n ∧ Own (Fr w wr) wr 5 1 a1 ys.length c1 (bvs ys) ∧ Upd Nil w wr)
    case atStart => exact ⟨xs, a1, c1, by first | rfl | (rw [H0.out]; rfl), rfl, rfl, Nat.le_refl _, HO.out, HU.out⟩
    case round =>
      obtain ⟨ys, a2, c2, rfl, rfl, he, hkn, hown, hup⟩ := hrel
      have hlen := congrArg List.length he
      rw [List.length_append, List.length_append] at hlen
      have hpn := length_putL hn
      have hyl : ys.length ≤ 140737488355100 := by omega
      have HE := Lib.hid he
      have HO2 := Lib.hid hown
      have HU2 := Lib.hid hup
      clear he hown hup hlen hpn
      by_cases hk : 127 < gk
      · go_wp2_with (at_builtin; refine wpList_append_Own rfl (.tmp 13) (.tmp 18) 22 rfl Tryd.underlying22 hi0.out.1 hi0.out.2.1 hi0.out.2.2.1 hi0.out.2.2.2 rfl (by decide) rfl (HO2.out.alloc _) rfl (one_row wr _ _) (by simp) (by simp [Value.oneCell']) (by intro h; cases h) (by simp only [maxLen]; omega) (by omega) ?_; intro a3 c3 w3 h1 h2 _; have HO3 := Lib.hid h1; have HU3 := Lib.hid h2; clear h1 h2)
        go_roundg (gk / 128)
        case measure => omega
        case rel =>
          have ho := HO3.out
          rw [add128] at ho
          have z0 := HU2.out.size
          have z3 := HU3.out.size
          simp only [World.size_alloc] at z3
          refine ⟨ys ++ [UInt8.ofNat (gk % 128 + 128)], a3, c3, by go_num, by rw [List.length_append]; rfl, ?_, by omega, ?_, (HU2.out.alloc _).trans HU3.out (fun k hk hlt => by have := hk.1; omega)⟩
          · rw [List.append_assoc, List.singleton_append, ← putL_big (by omega)]
            exact HE.out
          · rw [List.length_append, bvs_append]
            refine Own.mono ho ?_
            rintro k (h | h)
            · exact ⟨h.1, by have := h.2; omega⟩
            · have h1 := h.1
              simp only [World.size_alloc] at h1
              exact ⟨by omega, h.2⟩
      · go_wp2_with (at_builtin; refine wpList_append_Own rfl (.tmp 22) (.tmp 25) 22 rfl Tryd.underlying22 hi0.out.1 hi0.out.2.1 hi0.out.2.2.1 hi0.out.2.2.2 rfl (by decide) rfl (HO2.out.alloc _) rfl (one_row wr _ _) (by simp) (by simp [Value.oneCell']) (by intro h; cases h) (by simp only [maxLen]; omega) (by omega) ?_; intro a3 c3 w3 h1 h2 _; have HO3 := Lib.hid h1; have HU3 := Lib.hid h2; clear h1 h2)
        go_ret
        have ho := HO3.out
        rw [low128 (by omega)] at ho
        have z0 := HU2.out.size
        have z3 := HU3.out.size
        simp only [World.size_alloc] at z3
        have he := HE.out
        rw [putL_small (by omega)] at he
        rw [← he]
        refine ⟨a3, c3, by rw [List.length_append]; rfl, ?_, (HU2.out.alloc _).trans HU3.out (fun k hk hlt => by have := hk.1; omega)⟩
        rw [List.length_append, bvs_append]
        refine Own.mono ho ?_
        rintro k (h | h)
        · exact ⟨h.1, by have := h.2; omega⟩
        · have h1 := h.1
          simp only [World.size_alloc] at h1
          exact ⟨by omega, h.2⟩
end Go.Proofs.YtbaombnnagidcaaDoor
