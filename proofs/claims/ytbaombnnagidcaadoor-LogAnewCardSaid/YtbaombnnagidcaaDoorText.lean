/- append(b, s...) of a string's bytes onto a row of one's own; Text, of the program and of the document. -/
import Derived.Test.YtbaombnnagidcaaDoorWire
import Derived.Lib.AppendStr
namespace Go.Proofs.YtbaombnnagidcaaDoor
open Go.RowKit

section
variable {P : Program}
theorem strCells_bvs (s : ByteArray) : Lib.strCells s = bvs s.data.toList := rfl

theorem run_append_str {F : Nat → Prop} {w : World} {t : TypeId} (ts tu ty : TypeId) {i : TypeInfo} (ht : P.underlying ts = some (.slice t)) (hu : P.underlying tu = some .string) (hi : P.info? t = some i) (hz : i.zero = some (.int .u8 0)) (hsize : i.size = 1) (hby : i.bytes = 1)
    {a : Option Addr} {n c : Nat} {xs : List UInt8} (hown : Own F w t 1 a n c (bvs xs)) (hn : n ≠ 0) (s : ByteArray) (h63 : n + s.size ≤ maxLen) (hbytes : n + s.size ≤ 140737488355328) :
    ∃ a' c' w', (Builtin.append_ #[ts, tu] ty #[.slice a n c, .string s]).run P w = .ok (.slice a' (n + s.size) c') w' ∧ Own (fun k => F k ∨ Fr w w' k) w' t 1 a' (n + s.size) c' (bvs (xs ++ s.data.toList)) ∧ Upd F w w' := by
  have hsmall : n + s.size ≤ 9223372036854775807 := le_max h63
  have hl := hown.1
  have hls : s.data.toList.length = s.size := by rw [Array.length_toList]; rfl
  have hlen : (bvs (xs ++ s.data.toList)).length = (n + s.size) * 1 := by
    rw [length_bvs, List.length_append, hls]
    rw [length_bvs] at hl
    omega
  rcases hown.2 with ⟨_, h0, _⟩ | ⟨g, cur, rfl, hF, hg, hnc, hcm, hcs, htake⟩
  · exact absurd h0 hn
  · by_cases hroom : n + s.size ≤ c
    · have hr := Lib.run_append_room_string (P := P) w ts tu ty t i ht hu hi hsize g n c cur hg s hroom (by omega)
      refine ⟨_, _, _, hr, ⟨hlen, .inr ⟨g, _, rfl, .inl hF, setRow_heap w g cur _ t _ hg, hroom, hcm, ?_, ?_⟩⟩, ⟨rfl, rfl, rfl, by simp, fun k _ hk => setRow_other w g k _ (fun e => hk (e ▸ hF))⟩⟩
      · simp only [List.size_toArray, List.length_append, List.length_take, List.length_drop, Array.length_toList, Lib.strCells_length]
        omega
      · rw [Nat.mul_one] at htake
        rw [htake, strCells_bvs, ← bvs_append, ← hlen]
        exact List.take_left
    · have holds : ∀ j v, (bvs xs)[j]? = some v → w.cell? ((⟨g, 0, none⟩ : Addr).add j) = some v := by
        intro j v hv
        obtain ⟨b, o, e, _, hc⟩ := hown.row (by rintro h; rw [h] at hv; cases hv)
        obtain ⟨rfl, rfl⟩ : g = b ∧ 0 = o := by simpa using e
        rw [Addr.add_lit]
        exact hc j v hv
      have hr := Lib.run_append_grow_string (P := P) w ts tu ty t i (.int .u8 0) ht hu hi hz ⟨g, 0, none⟩ n c (bvs xs) (by rw [hsize]; exact hl) holds s (by omega) (by omega) (by rw [hby]; exact growslice_fits (by omega) (by omega))
      have hge := grownCap_ge w (n + s.size) c t
      refine ⟨_, _, _, hr, ⟨hlen, .inr ⟨w.heap.size, _, rfl, .inr ⟨Nat.le_refl _, by simp⟩, heap_alloc_new w.drew _, hge, grownCap_le_maxLen w (n + s.size) c t h63, ?_, ?_⟩⟩, ((Upd.refl F w).drew).alloc _⟩
      · have hz1 : (Value.int IntKind.u8 0).cells.size = 1 := rfl
        simp only [Array.size_append, List.size_toArray, size_zeroCells, hz1, Lib.strCells_length, hl]
        omega
      · rw [strCells_bvs]
        simp only [Array.toList_append, List.append_assoc]
        rw [← List.append_assoc, ← bvs_append, ← hlen]
        exact List.take_left

theorem wpList_append_str {ops : Array Oper} {rest : List Oper} {o : Oper} {act : Act} {Q : Exit → Act → World → Prop} {F : Nat → Prop} {w : World} {t : TypeId} (hgd : o.guard = none) (s x : Operand) (ts tu : TypeId)
    (ho : o.op = .call { callee := .builtin .append, args := #[s, x], argTypes := #[ts, tu] })
    {i : TypeInfo} (ht : P.underlying ts = some (.slice t)) (hu : P.underlying tu = some .string) (hi : P.info? t = some i) (hz : i.zero = some (.int .u8 0)) (hsize : i.size = 1) (hby : i.bytes = 1)
    {a : Option Addr} {n c : Nat} {xs : List UInt8} (hs : act.eval s = .slice a n c) (hown : Own F w t 1 a n c (bvs xs)) (hn : n ≠ 0) {str : ByteArray} (hx : act.eval x = .string str) (h63 : n + str.size ≤ maxLen) (hbytes : n + str.size ≤ 140737488355328)
    (h : ∀ a' c' w', Own (fun k => F k ∨ Fr w w' k) w' t 1 a' (n + str.size) c' (bvs (xs ++ str.data.toList)) → Upd F w w' → wpList P ops Q rest (act.put o.dst (.slice a' (n + str.size) c')) w') : wpList P ops Q (o :: rest) act w := by
  refine wpList_plain hgd fun K hK => ?_
  obtain ⟨a', c', w', hrun, h2, h3⟩ := run_append_str (P := P) ts tu o.type ht hu hi hz hsize hby hown hn str h63 hbytes
  unfold Oper.wp execOp
  simp only [ho, resolve, invoke, builtin, Sem.run_bind, Sem.run_pure, Result.andThen_ok, List.map_toArray, List.map_cons, List.map_nil, hs, hx, hrun]
  exact hK _ _ (h a' c' w' h2 h3)
end

/-- the bytes of a text with its length ahead -/
def textL (s : ByteArray) : List UInt8 := putL s.size ++ s.data.toList
theorem putZ_nat (n : Nat) : putZ (n : Int) = putL n := by rw [putZ, Int.toNat_natCast]
theorem size_toList (s : ByteArray) : s.data.toList.length = s.size := by rw [Array.length_toList]; rfl

set_option maxRecDepth 100000 in
theorem wire_Text {F : Nat → Prop} (w : World) {a : Option Addr} (c : Nat) {xs : List UInt8} (hr : Row F w a (bvs xs)) (hA : a = none → c = 0) (s : ByteArray) (hx : xs.length + s.size ≤ 140737488355000) :
    Calls Tryd.prog 15 #[.slice a xs.length c, .string s] w (RetOwn w 5 1 (xs ++ textL s).length (bvs (xs ++ textL s))) := by
  have H := Lib.hid (wire_Put w c hr hA (by omega) (s.size : Int) (by omega))
  clear hr hA
  obtain ⟨i0, hi, hz0, hz1, hz2⟩ := info_parts infoU8
  have hi0 := Lib.hid (And.intro hi (And.intro hz0 (And.intro hz1 hz2)))
  clear hi hz0 hz1 hz2
  rw [putZ_nat] at H
  have hlp := length_putL (n := s.size) (by omega)
  have hpp := length_putL_pos s.size
  obtain ⟨ys, hys⟩ : ∃ ys, xs ++ putL s.size = ys := ⟨_, rfl⟩
  have hyl : ys.length = xs.length + (putL s.size).length := by rw [← hys, List.length_append]
  have hyb : ys.length ≤ 140737488355100 - s.size := by omega
  have hy1 : ys.length ≠ 0 := by omega
  have hsz : s.size ≤ 9223372036854775807 := by omega
  rw [hys] at H
  rw [textL, ← List.append_assoc, hys, List.length_append, size_toList]
  have HY1 := Lib.hid hy1
  have HYB := Lib.hid (show ys.length + s.size ≤ 140737488355200 by omega)
  clear hlp hpp hyl hys hy1 hyb
  go_enter Tryd.func15, Tryd.ntmps15
  go_wp2_with (first
    | (go_at_call 14; refine H.out.mono ?_; rintro e w1 ⟨a1, c1, rfl, h1, h2⟩; have HO := Lib.hid h1; have HU := Lib.hid h2; clear h1 h2)
    | (at_builtin; refine wpList_append_str rfl (.tmp 8) (.tmp 9) 22 9 rfl Tryd.underlying22 Tryd.underlying9 hi0.out.1 hi0.out.2.1 hi0.out.2.2.1 hi0.out.2.2.2 rfl HO.out HY1.out rfl (by have := HYB.out; simp only [maxLen]; omega) (by have := HYB.out; omega) ?_; intro a3 c3 w3 h1 h2; have HO3 := Lib.hid h1; have HU3 := Lib.hid h2; clear h1 h2))
  go_ret
  have z1 := HU.out.size
  have z3 := HU3.out.size
  refine ⟨a3, c3, rfl, HO3.out.mono ?_, HU.out.trans HU3.out (fun k hk hlt => by have := hk.1; omega)⟩
  rintro k (h | h)
  · exact ⟨h.1, by have := h.2; omega⟩
  · exact ⟨by have := h.1; omega, h.2⟩

set_option maxRecDepth 100000 in
theorem ref_Text {F : Nat → Prop} (w : World) {a : Option Addr} (c : Nat) {xs : List UInt8} (hr : Row F w a (bvs xs)) (hA : a = none → c = 0) (s : ByteArray) (hx : xs.length + s.size ≤ 140737488355000) :
    Calls Tryd.prog 18 #[.slice a xs.length c, .string s] w (RetOwn w 5 1 (xs ++ textL s).length (bvs (xs ++ textL s))) := by
  have H := Lib.hid (ref_Put w c hr hA (by omega) (s.size : Int) (by omega))
  clear hr hA
  obtain ⟨i0, hi, hz0, hz1, hz2⟩ := info_parts infoU8
  have hi0 := Lib.hid (And.intro hi (And.intro hz0 (And.intro hz1 hz2)))
  clear hi hz0 hz1 hz2
  rw [putZ_nat] at H
  have hlp := length_putL (n := s.size) (by omega)
  have hpp := length_putL_pos s.size
  obtain ⟨ys, hys⟩ : ∃ ys, xs ++ putL s.size = ys := ⟨_, rfl⟩
  have hyl : ys.length = xs.length + (putL s.size).length := by rw [← hys, List.length_append]
  have hyb : ys.length ≤ 140737488355100 - s.size := by omega
  have hy1 : ys.length ≠ 0 := by omega
  have hsz : s.size ≤ 9223372036854775807 := by omega
  rw [hys] at H
  rw [textL, ← List.append_assoc, hys, List.length_append, size_toList]
  have HY1 := Lib.hid hy1
  have HYB := Lib.hid (show ys.length + s.size ≤ 140737488355200 by omega)
  clear hlp hpp hyl hys hy1 hyb
  go_enter Tryd.func18, Tryd.ntmps18
  go_wp2_with (first
    | (go_at_call 17; refine H.out.mono ?_; rintro e w1 ⟨a1, c1, rfl, h1, h2⟩; have HO := Lib.hid h1; have HU := Lib.hid h2; clear h1 h2)
    | (at_builtin; refine wpList_append_str rfl (.tmp 8) (.tmp 9) 22 9 rfl Tryd.underlying22 Tryd.underlying9 hi0.out.1 hi0.out.2.1 hi0.out.2.2.1 hi0.out.2.2.2 rfl HO.out HY1.out rfl (by have := HYB.out; simp only [maxLen]; omega) (by have := HYB.out; omega) ?_; intro a3 c3 w3 h1 h2; have HO3 := Lib.hid h1; have HU3 := Lib.hid h2; clear h1 h2))
  go_ret
  have z1 := HU.out.size
  have z3 := HU3.out.size
  refine ⟨a3, c3, rfl, HO3.out.mono ?_, HU.out.trans HU3.out (fun k hk hlt => by have := hk.1; omega)⟩
  rintro k (h | h)
  · exact ⟨h.1, by have := h.2; omega⟩
  · exact ⟨by have := h.1; omega, h.2⟩
end Go.Proofs.YtbaombnnagidcaaDoor
