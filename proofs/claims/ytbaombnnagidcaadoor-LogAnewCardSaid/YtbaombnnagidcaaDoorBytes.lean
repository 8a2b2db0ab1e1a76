/- Contracts of the library's and the references' small functions on bytes: a clone, a copy, two texts compared, a text spoiled. -/
import Derived.Test.YtbaombnnagidcaaDoorMem
namespace Go.Proofs.YtbaombnnagidcaaDoor
open Go.RowKit

theorem infoU8 : (Tryd.prog.info? 5).map (fun i => (i.zero, i.size, i.bytes)) = some (some (.int .u8 0), 1, 1) := by kernel_rfl
theorem infoBytes : (Tryd.prog.info? 22).map (fun i => (i.zero, i.size, i.bytes)) = some (some (.slice none 0 0), 1, 24) := by kernel_rfl

/-- It returns a slice of its own that reads the cells cs; of what was there nothing has turned. -/
def RetOwn (w : World) (t : TypeId) (sz n : Nat) (cs : List Value) (e : Ending) (w' : World) : Prop :=
  ∃ a' c', e = .returned (.slice a' n c') ∧ Own (Fr w w') w' t sz a' n c' cs ∧ Upd Nil w w'

theorem q22 (w : World) (a : Option Addr) (n c n' c' : Nat) : (binOp .eql 22 (.slice a n c) (.slice none n' c')).run Tryd.prog w = .ok (.bool a.isNone) w := Lib.run_eql_slice_nil w _ _ a n c n' c' Tryd.underlying22

/-- a row of a literal of no element, then an append -/
theorem own_empty (w : World) : Own (Fr w (w.alloc (.cells #[] 5))) (w.alloc (.cells #[] 5)) 5 1 (some ⟨w.heap.size, 0, none⟩) 0 0 [] :=
  (Own.lit w #[] 0 (Nat.zero_le _) rfl).mono (fun k hk => by subst hk; exact ⟨Nat.le_refl _, by simp⟩)

set_option maxHeartbeats 400000 in
theorem bytesClone {F : Nat → Prop} (w : World) {a : Option Addr} (c : Nat) {xs : List UInt8} (hr : Row F w a (bvs xs)) (hx : xs.length ≤ 140737488355328) :
    Calls Tryd.prog 13 #[.slice a xs.length c] w (RetOwn w 5 1 xs.length (bvs xs)) := by
  obtain ⟨i0, hi, hz0, hz1, hz2⟩ := info_parts infoU8
  have Q := Lib.hid hr
  clear hr
  cases a with
  | none =>
    have hq := q22
    go_enter Tryd.func13, Tryd.ntmps13
    go_wp2
    go_ret
    have hx0 : xs = [] := by
      cases xs with
      | nil => rfl
      | cons x xs =>
        obtain ⟨b, o, h, _⟩ := Q.out (by simp [bvs])
        cases h
    subst hx0
    exact ⟨none, 0, rfl, Own.none_ _ _ _ _, Upd.refl _ _⟩
  | some ad =>
    have hq := q22
    go_enter Tryd.func13, Tryd.ntmps13
    go_wp2_with (at_builtin; refine wpList_append_Own rfl _ _ _ rfl Tryd.underlying22 hi hz0 hz1 hz2 rfl (by decide) rfl (own_empty w) rfl (Q.out.alloc _) (by simp) (bvs_one xs) (by intro h; cases h) (by simp only [maxLen]; omega) (by omega) ?_)
    intro a' c' w' hown hup hne
    go_wp2
    go_ret
    refine ⟨a', c', rfl, (by simpa using hown : Own _ w' _ 1 a' xs.length c' (bvs xs)).mono ?_, ?_⟩
    · rintro k (⟨h1, h2⟩ | ⟨h1, h2⟩)
      · exact ⟨h1, Nat.lt_of_lt_of_le h2 hup.size⟩
      · exact ⟨by simp at h1; omega, h2⟩
    · exact ((Upd.refl Nil w).alloc _).trans hup (fun k h1 h2 => by have := h1.1; omega)

set_option maxHeartbeats 400000 in
theorem slicesCloneB {F : Nat → Prop} (w : World) {a : Option Addr} (c : Nat) {xs : List UInt8} (hr : Row F w a (bvs xs)) (hx : xs.length ≤ 140737488355328) :
    Calls Tryd.prog 53 #[.slice a xs.length c] w (RetOwn w 5 1 xs.length (bvs xs)) := by
  obtain ⟨i0, hi, hz0, hz1, hz2⟩ := info_parts infoU8
  have Q := Lib.hid hr
  clear hr
  cases a with
  | none =>
    have hq := q22
    go_enter Tryd.func53, Tryd.ntmps53
    go_wp2
    go_ret
    have hx0 : xs = [] := by
      cases xs with
      | nil => rfl
      | cons x xs =>
        obtain ⟨b, o, h, _⟩ := Q.out (by simp [bvs])
        cases h
    subst hx0
    exact ⟨none, 0, rfl, Own.none_ _ _ _ _, Upd.refl _ _⟩
  | some ad =>
    have hq := q22
    go_enter Tryd.func53, Tryd.ntmps53
    go_wp2_with (at_builtin; refine wpList_append_Own rfl _ _ _ rfl Tryd.underlying22 hi hz0 hz1 hz2 rfl (by decide) rfl (own_empty w) rfl (Q.out.alloc _) (by simp) (bvs_one xs) (by intro h; cases h) (by simp only [maxLen]; omega) (by omega) ?_)
    intro a' c' w' hown hup hne
    go_wp2
    go_ret
    refine ⟨a', c', rfl, (by simpa using hown : Own _ w' _ 1 a' xs.length c' (bvs xs)).mono ?_, ?_⟩
    · rintro k (⟨h1, h2⟩ | ⟨h1, h2⟩)
      · exact ⟨h1, Nat.lt_of_lt_of_le h2 hup.size⟩
      · exact ⟨by simp at h1; omega, h2⟩
    · exact ((Upd.refl Nil w).alloc _).trans hup (fun k h1 h2 => by have := h1.1; omega)

theorem bytesEqual {F G : Nat → Prop} (w : World) {a b : Option Addr} (c d : Nat) {xs ys : List UInt8} (hx : Row F w a (bvs xs)) (hy : Row G w b (bvs ys)) :
    Calls Tryd.prog 16 #[.slice a xs.length c, .slice b ys.length d] w fun e w' => e = .returned (.bool (decide (xs = ys))) ∧ w = w' := by
  have h1 := run_convert_Row (P := Tryd.prog) hx 22 5 9 Tryd.underlying22 Tryd.underlying5 Tryd.underlying9 c
  have h2 := run_convert_Row (P := Tryd.prog) hy 22 5 9 Tryd.underlying22 Tryd.underlying5 Tryd.underlying9 d
  clear hx hy
  go_enter Tryd.func16, Tryd.ntmps16
  go_wp2
  go_ret
  refine ⟨?_, rfl⟩
  show Ending.returned (.bool ((str xs).toList == (str ys).toList)) = _
  rw [str_toList, str_toList]
  have : (xs == ys) = decide (xs = ys) := by
    rw [Bool.eq_iff_iff]
    simp
  rw [this]

/-- It spoils the bytes of a slice of its own: only blocks of F turn. -/
theorem spoil {F : Nat → Prop} (w : World) {a : Option Addr} {n c : Nat} {xs : List UInt8} (hown : Own F w 5 1 a n c (bvs xs)) :
    Calls Tryd.prog 87 #[.slice a n c] w fun e w' => e = .returned (.tuple #[]) ∧ Upd F w w' := by
  have hlen : xs.length = n := by have := hown.1; simpa using this
  have hle := hown.le
  have hm : n ≤ 9223372036854775807 := le_max (Nat.le_trans hle.1 hle.2)
  have H := Lib.hid hown
  have HL := Lib.hid hlen
  clear hown hlen hle
  go_enter Tryd.func87, Tryd.ntmps87
  go_wp2
  go_loopg [5] n (fun k i wr => ∃ j : Nat, j + k = n ∧ i = .int .i64 j ∧ ∃ cs, Own F wr 5 1 a n c cs ∧ (∀ q, j ≤ q → cs[q]? = (bvs xs)[q]?) ∧ Upd F w wr)
  case atStart => exact ⟨0, by omega, rfl, _, H.out, fun _ _ => rfl, Upd.refl _ _⟩
  case round =>
    obtain ⟨j, hjk, rfl, cs, hown, hsame, hup⟩ := hrel
    have hjk' : j ≤ n := by omega
    have HU := Lib.hid hup
    have HO := Lib.hid hown
    have HS := Lib.hid hsame
    have HJ := Lib.hid hjk
    clear hup hown hsame hjk
    by_cases hlt : j < n
    · have hcs : cs[j]? = some (.int .u8 (xs[j]'(by have := HL.out; omega)).toNat) := by rw [HS.out j (Nat.le_refl _)]; exact bvs_get xs j _
      obtain ⟨g, rfl, hF⟩ := HO.out.isNone (by omega)
      have hc : wr.cell? ⟨g, j, none⟩ = some (.int .u8 (xs[j]'(by have := HL.out; omega)).toNat) := by
        obtain ⟨b, o, h1, _, h3⟩ := HO.out.row (by rintro rfl; simp at hcs)
        obtain ⟨rfl, rfl⟩ : g = b ∧ 0 = o := by simpa using h1
        simpa using h3 j _ hcs
      have hf : wr.frozen? ⟨g, j, none⟩ = false := HO.out.frozen rfl j
      have HC := Lib.hid hcs
      clear hcs
      go_wp2
      go_roundg (gk - 1)
      case measure => have := HJ.out; omega
      case rel =>
        refine ⟨j + 1, by have := HJ.out; omega, by go_num, _, HO.out.stored rfl j _, fun q hq => ?_, HU.out.setCell (.inl hF) _⟩
        rw [List.getElem?_set_ne (by omega)]
        exact HS.out q (by omega)
    · go_wp2
      go_end0
      exact ⟨rfl, HU.out⟩
end Go.Proofs.YtbaombnnagidcaaDoor
