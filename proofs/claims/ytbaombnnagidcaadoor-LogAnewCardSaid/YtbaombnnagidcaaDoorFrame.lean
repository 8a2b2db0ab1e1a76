/- Frames: a sum's bytes, slices.Grow, slices.Concat, Frame. -/
import Derived.Test.YtbaombnnagidcaaDoorSum
import Derived.Test.YtbaombnnagidcaaDoorText
import Derived.Test.YtbaombnnagidcaaDoorZeros
namespace Go.Proofs.YtbaombnnagidcaaDoor
open Go.RowKit

/-- a sum's bytes -/
def fourL (n : Nat) : List UInt8 := [UInt8.ofNat (n % 256), UInt8.ofNat (n / 256 % 256), UInt8.ofNat (n / 65536 % 256), UInt8.ofNat (n / 16777216 % 256)]
theorem length_fourL (n : Nat) : (fourL n).length = 4 := rfl
theorem byteAt (m : Nat) : Value.int .u8 ((m : Int) % 256) = bv (UInt8.ofNat (m % 256)) := by
  rw [bv, toNat_ofNat8 (by omega)]
  congr 1
theorem fourL_bvs (n : Nat) : [Value.int .u8 ((n : Int) % 256), Value.int .u8 ((n : Int) / 256 % 256), Value.int .u8 ((n : Int) / 65536 % 256), Value.int .u8 ((n : Int) / 16777216 % 256)] = bvs (fourL n) := by
  have e1 := byteAt n
  have e2 := byteAt (n / 256)
  have e3 := byteAt (n / 65536)
  have e4 := byteAt (n / 16777216)
  show _ = [bv _, bv _, bv _, bv _]
  rw [← e1, ← e2, ← e3, ← e4]
  rfl
theorem fourL_inj {m n : Nat} (hm : m < 4294967296) (hn : n < 4294967296) (h : fourL m = fourL n) : m = n := by
  unfold fourL at h
  simp only [List.cons.injEq, and_true] at h
  obtain ⟨h1, h2, h3, h4⟩ := h
  have g : ∀ {a b : Nat}, a < 256 → b < 256 → UInt8.ofNat a = UInt8.ofNat b → a = b := fun ha hb e => by
    have := congrArg UInt8.toNat e
    rwa [toNat_ofNat8 ha, toNat_ofNat8 hb] at this
  have h1 := g (by omega) (by omega) h1
  have h2 := g (by omega) (by omega) h2
  have h3 := g (by omega) (by omega) h3
  have h4 := g (by omega) (by omega) h4
  omega

theorem wire_sum4 {F : Nat → Prop} (w : World) {a : Option Addr} (c : Nat) {xs : List UInt8} (hr : Row F w a (bvs xs)) (hx : xs.length ≤ 9223372036854775807) (ht : Tab w) :
    Calls Tryd.prog 55 #[.slice a xs.length c] w (RetOwn w 5 1 4 (bvs (fourL (sumL xs)))) := by
  have H := Lib.hid (wire_Sum w c hr hx ht)
  have hl := sumL_lt xs
  clear hr ht
  obtain ⟨n, hn⟩ : ∃ n, sumL xs = n := ⟨_, rfl⟩
  rw [hn] at H hl ⊢
  clear hn
  go_enter Tryd.func55, Tryd.ntmps55
  go_wp2_with (go_at_call 19; refine H.out.mono ?_; rintro e w' ⟨rfl, rfl⟩)
  go_ret
  refine ⟨some ⟨w.heap.size, 0, none⟩, 4, rfl, ?_, (Upd.refl Nil w).alloc _⟩
  have := Own.lit (t := 5) (sz := 1) w #[Value.int .u8 ((n : Int) % 256), Value.int .u8 ((n : Int) / 256 % 256), Value.int .u8 ((n : Int) / 65536 % 256), Value.int .u8 ((n : Int) / 16777216)] 4 (by decide) rfl
  rw [← fourL_bvs, show (n : Int) / 16777216 % 256 = (n : Int) / 16777216 by omega]
  exact this.mono (fun k hk => by subst hk; exact ⟨Nat.le_refl _, by simp⟩)

section
variable {P : Program}
theorem wpList_append_zeros {ops : Array Oper} {rest : List Oper} {o : Oper} {act : Act} {Q : Exit → Act → World → Prop} {F : Nat → Prop} {w : World} {t : TypeId} (hgd : o.guard = none) (s x : Operand) (ts ti : TypeId)
    (ho : o.op = .call { callee := .builtin .append, args := #[s, x], argTypes := #[ts, ti] })
    {i : TypeInfo} (ht : P.underlying ts = some (.slice t)) {k : IntKind} (hti : P.underlying ti = some (.int k)) (hi : P.info? t = some i) (hz : i.zero = some (.int .u8 0))
    (hsize : i.size = 1) (hby : i.bytes = 1) {a : Option Addr} {n c : Nat} {xs : List UInt8} (hs : act.eval s = .slice a n c) (hown : Own F w t 1 a n c (bvs xs))
    {kx : IntKind} {z : Int} {m : Nat} (hx : act.eval x = .int kx z) (hzm : z = m) (hbytes : n + m ≤ 140737488355328)
    (h : ∀ a' c' w', Own (fun k => F k ∨ Fr w w' k) w' t 1 a' (n + m) c' (bvs (xs ++ List.replicate m 0)) → Upd F w w' → wpList P ops Q rest (act.put o.dst (.slice a' (n + m) c')) w') : wpList P ops Q (o :: rest) act w := by
  refine wpList_plain hgd fun K hK => ?_
  have := step_append_zeros (P := P) (ops := ops) (K := K) (Q := Q) (E := True) hgd s x ts ti ho ht hti hi hz hsize hby hs hown hx hzm hbytes (fun a' c' w' h1 h2 => hK _ _ (h a' c' w' h1 h2))
  rwa [if_pos (by simp [Region.wanted, hgd])] at this
end

/-- room of one's own, nothing in it -/
def GotRoom (w : World) (e : Ending) (w' : World) : Prop := ∃ a c, e = .returned (.slice a 0 c) ∧ Own (Fr w w') w' 5 1 a 0 c (bvs []) ∧ Upd Nil w w'

theorem grow_nil (w : World) {n : Nat} (h1 : 1 ≤ n) (hn : n ≤ 140737488355328) : Calls Tryd.prog 94 #[.slice none 0 0, .int .i64 n] w (GotRoom w) := by
  obtain ⟨i0, hi, hz0, hz1, hz2⟩ := info_parts infoU8
  have hi0 := Lib.hid (And.intro hi (And.intro hz0 (And.intro hz1 hz2)))
  clear hi hz0 hz1 hz2
  go_enter Tryd.func94, Tryd.ntmps94
  go_wp2_with (at_builtin; refine wpList_append_zeros rfl (.tmp 20) (.tmp 21) 22 3 rfl Tryd.underlying22 Tryd.underlying3 hi0.out.1 hi0.out.2.1 hi0.out.2.2.1 hi0.out.2.2.2 (xs := []) rfl (Own.none_ (Fr w w) w 5 1) (m := n) rfl (by first | rfl | omega) (by omega) ?_
               intro a2 c2 w2 g1 g2; have hle := g1.le; have HO := Lib.hid g1; have HU := Lib.hid g2; clear g1 g2)
  go_ret
  have z := HU.out.size
  refine ⟨a2, c2, rfl, (HO.out.shorten (Nat.zero_le _)).mono ?_, HU.out.trans (Upd.refl Nil w2) (fun _ f _ => f.elim) |>.mono ?_⟩
  · rintro k (h | h)
    · exact ⟨h.1, by have := h.2; omega⟩
    · exact h
  · intro k h
    have := h.1
    have := h.2
    omega

/-- parts, one behind the other -/
def GotCat (w : World) (xs : List UInt8) (e : Ending) (w' : World) : Prop := RetOwn w 5 1 xs.length (bvs xs) e w'
theorem flatten_take_succ {xss : List (List UInt8)} {j : Nat} (h : j < xss.length) : (xss.take (j + 1)).flatten = (xss.take j).flatten ++ xss[j] := by
  rw [List.take_succ_eq_append_getElem h, List.flatten_append]
  simp
theorem flatten_take_le (xss : List (List UInt8)) (j : Nat) : (xss.take j).flatten.length ≤ xss.flatten.length := by
  conv => rhs; rw [← List.take_append_drop j xss, List.flatten_append, List.length_append]
  omega

set_option maxRecDepth 100000 in
set_option maxHeartbeats 1000000 in
theorem concat {F E : Nat → Prop} (w : World) {A : Option Addr} {n c : Nat} {vs : List Value} {xss : List (List UInt8)} (hA : Row F w A vs) (hall : All2 (Elem E w) vs xss) (hn : xss.length = n) (hn2 : n ≤ 1000) (hl : xss.flatten.length ≤ 140737488355328) (h1 : 1 ≤ xss.flatten.length) :
    Calls Tryd.prog 54 #[.slice A n c] w (GotCat w xss.flatten) := by
  have HA := Lib.hid hA
  have HAll := Lib.hid hall
  subst hn
  obtain ⟨i0, hi, hz0, hz1, hz2⟩ := info_parts infoU8
  have hi0 := Lib.hid (And.intro hi (And.intro hz0 (And.intro hz1 hz2)))
  have HL := Lib.hid hl
  have H1 := Lib.hid h1
  clear hi hz0 hz1 hz2 hA hall hl h1
  go_enter Tryd.func54, Tryd.ntmps54
  go_wp2
  go_loopg [3, 11] xss.length (fun k v i wr => ∃ j t : Nat, j + k = xss.length ∧ i = .int .i64 j ∧ v = .int .i64 (t : Int) ∧ t = (xss.take j).flatten.length ∧ w = wr)
  case atStart => exact ⟨0, 0, by omega, rfl, rfl, by simp, rfl⟩
  case round =>
    obtain ⟨j, t, hjk, rfl, rfl, ht, rfl⟩ := hrel
    have hjn : j ≤ xss.length := by omega
    have htl : t ≤ 140737488355328 := by have := flatten_take_le xss j; have := HL.out; omega
    have HJ := Lib.hid hjk
    have HTt := Lib.hid ht
    clear hjk ht
    by_cases hlt : j < xss.length
    · obtain ⟨v, hv, a, ca, rfl, ra, na, la, ma⟩ := HAll.out.get hlt
      obtain ⟨b, o, rfl, _, hcell⟩ := rowAt HA.out hv
      have hft := flatten_take_succ hlt
      have hfl := flatten_take_le xss (j + 1)
      rw [hft, List.length_append, ← HTt.out] at hfl
      have hxl : t + (xss[j]).length ≤ 140737488355328 := by have := HL.out; omega
      have HFt := Lib.hid hft
      clear hv ra na la ma hft hfl
      go_wp2
      go_roundg (gk - 1)
      case measure => have := HJ.out; omega
      case rel => exact ⟨j + 1, t + (xss[j]).length, by have := HJ.out; omega, by go_num, by go_num, by rw [HFt.out, List.length_append, ← HTt.out], rfl⟩
    · obtain rfl : j = xss.length := by omega
      have htt := HTt.out
      rw [List.take_length] at htt
      have ht1 : 1 ≤ t := by have := H1.out; omega
      clear htt
      go_wp2_with (go_at_call 94; refine (grow_nil _ (n := t) ht1 htl).mono ?_; rintro e w1 ⟨a1, c1, rfl, g1, g2⟩; have HO := Lib.hid g1; have HU := Lib.hid g2; clear g1 g2)
      go_loopg [6, 27] xss.length (fun k v i wr => ∃ j : Nat, j + k = xss.length ∧ i = .int .i64 j ∧ ∃ a c t, v = .slice a t c ∧ t = (xss.take j).flatten.length ∧ Own (Fr w wr) wr 5 1 a t c (bvs (xss.take j).flatten) ∧ Upd Nil w wr)
      case atStart => exact ⟨0, by omega, rfl, a1, c1, 0, rfl, rfl, HO.out, HU.out⟩
      case round =>
        obtain ⟨j, hjk, rfl, a2, c2, t2, rfl, ht2, hown, hup⟩ := hrel
        have hjn : j ≤ xss.length := by omega
        have htl2 : t2 ≤ 140737488355328 := by have := flatten_take_le xss j; have := HL.out; omega
        have HJ2 := Lib.hid hjk
        have HT2 := Lib.hid ht2
        have HO2 := Lib.hid hown
        have HU2 := Lib.hid hup
        clear hjk ht2 hown hup
        by_cases hlt : j < xss.length
        · obtain ⟨v, hv, a, ca, rfl, ra, na, la, ma⟩ := HAll.out.get hlt
          obtain ⟨b, o, rfl, _, hcell0⟩ := rowAt HA.out hv
          have hcell := HU2.out.cell hcell0 (fun f => f)
          have hft := flatten_take_succ hlt
          have hfl := flatten_take_le xss (j + 1)
          rw [hft, List.length_append, ← HT2.out] at hfl
          have hxl : t2 + (xss[j]).length ≤ 140737488355328 := by have := HL.out; omega
          have HFt := Lib.hid hft
          have HRa := Lib.hid (ra.keep HU2.out)
          have HNa := Lib.hid na
          clear hv ra na la ma hft hfl hcell0
          go_wp2_with (at_builtin; refine wpList_append_Own rfl (.tmp 31) (.tmp 32) 22 rfl Tryd.underlying22 hi0.out.1 hi0.out.2.1 hi0.out.2.2.1 hi0.out.2.2.2 rfl (by decide) rfl HO2.out rfl HRa.out (by simp) (bvs_one _) HNa.out (by simp only [maxLen]; omega) (by omega) ?_; intro a3 c3 w3 g1 g2 _; have HO3 := Lib.hid g1; have HU3 := Lib.hid g2; clear g1 g2)
          go_roundg (gk - 1)
          case measure => have := HJ2.out; omega
          case rel =>
            have z0 := HU2.out.size
            have z1 := HU3.out.size
            refine ⟨j + 1, by have := HJ2.out; omega, by go_num, a3, c3, t2 + (xss[j]).length, rfl, by rw [HFt.out, List.length_append, ← HT2.out], ?_, HU2.out.trans HU3.out (fun k hk hlt => by have := hk.1; omega)⟩
            rw [HFt.out, bvs_append]
            refine Own.mono HO3.out ?_
            rintro k (h | h)
            · exact ⟨h.1, by have := h.2; omega⟩
            · exact ⟨by have := h.1; omega, h.2⟩
        · obtain rfl : j = xss.length := by omega
          have ht2 := HT2.out
          have ho := HO2.out
          rw [List.take_length] at ht2 ho
          subst ht2
          have HO3 := Lib.hid ho
          clear ho
          go_wp2
          go_ret
          exact ⟨a2, c2, rfl, HO3.out, HU2.out⟩
end Go.Proofs.YtbaombnnagidcaaDoor
