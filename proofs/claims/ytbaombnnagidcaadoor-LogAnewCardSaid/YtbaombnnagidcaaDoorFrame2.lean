/- Frame of the program; slices.Equal; Unframe of the program. -/
import Derived.Test.YtbaombnnagidcaaDoorFrame
import Derived.Test.YtbaombnnagidcaaDoorReader2
import Derived.Test.YtbaombnnagidcaaDoorImage
namespace Go.Proofs.YtbaombnnagidcaaDoor
open Go.RowKit

/-- bytes in a frame -/
def frameL (p : List UInt8) : List UInt8 := putL p.length ++ p ++ fourL (sumL p)

theorem put_nil (w : World) (n : Nat) (hn : n < 9223372036854775808) :
    Calls Tryd.prog 14 #[.slice none 0 0, .int .i64 n] w (RetOwn w 5 1 (putL n).length (bvs (putL n))) := by
  have := wire_Put (F := Nil) w (xs := []) 0 (Row.nil _ _ none) (fun _ => rfl) (by decide) (n : Int) (by omega)
  rw [putZ_nat, List.nil_append] at this
  exact this

theorem wire_Frame_no (w : World) (a : Option Addr) {n : Nat} (c : Nat) (h : 65536 < n) :
    Calls Tryd.prog 21 #[.slice a n c] w fun e w' => e = .returned (.tuple #[.slice none 0 0, .int .i64 12]) ∧ w = w' := by
  go_enter Tryd.func21, Tryd.ntmps21
  go_wp2
  go_ret2
  exact ⟨rfl, rfl⟩

theorem concat3 (w : World) {E1 E2 E3 : Nat → Prop} {v1 v2 v3 : Value} {x1 x2 x3 : List UInt8} (h1 : Elem E1 w v1 x1) (h2 : Elem E2 w v2 x2) (h3 : Elem E3 w v3 x3) (hl : (x1 ++ x2 ++ x3).length ≤ 140737488355328) (hp : 1 ≤ (x1 ++ x2 ++ x3).length) :
    Calls Tryd.prog 54 #[.slice (some ⟨w.heap.size, 0, none⟩) 3 3] (w.alloc (.cells #[v1, v2, v3] 22)) (GotCat (w.alloc (.cells #[v1, v2, v3] 22)) (x1 ++ x2 ++ x3)) := by
  have e : ([x1, x2, x3] : List (List UInt8)).flatten = x1 ++ x2 ++ x3 := by simp
  have al : Upd Nil w (w.alloc (.cells #[v1, v2, v3] 22)) := (Upd.refl Nil w).alloc _
  have hrow : Row (One w.heap.size) (w.alloc (.cells #[v1, v2, v3] 22)) (some ⟨w.heap.size, 0, none⟩) [v1, v2, v3] :=
    (Own.lit (t := 22) (sz := 1) w #[v1, v2, v3] 3 (by decide) rfl).row
  have := concat (n := 3) (c := 3) (E := fun _ => True) (w.alloc (.cells #[v1, v2, v3] 22)) (xss := [x1, x2, x3]) hrow ⟨(h1.keep al).mono (fun _ _ => trivial), (h2.keep al).mono (fun _ _ => trivial), (h3.keep al).mono (fun _ _ => trivial), trivial⟩ rfl (by decide) (by rw [e]; exact hl) (by rw [e]; exact hp)
  rw [e] at this
  exact this

/-- bytes of one's own and a code -/
def GotBytes (w : World) (xs : List UInt8) (z : Int) (e : Ending) (w' : World) : Prop := ∃ a c, e = .returned (.tuple #[.slice a xs.length c, .int .i64 z]) ∧ Own (Fr w w') w' 5 1 a xs.length c (bvs xs) ∧ Upd Nil w w'

set_option maxRecDepth 100000 in
set_option maxHeartbeats 1000000 in
theorem wire_Frame_yes {F : Nat → Prop} (w : World) {a : Option Addr} (c : Nat) {xs : List UInt8} (hr : Row F w a (bvs xs)) (hA : a = none → c = 0) (hc : xs.length ≤ c) (hcm : c ≤ maxLen) (hx : xs.length ≤ 65536) (ht : Tab w) :
    Calls Tryd.prog 21 #[.slice a xs.length c] w (GotBytes w (frameL xs) 0) := by
  have HR := Lib.hid hr
  have HAn := Lib.hid hA
  have HT := Lib.hid ht
  have HC := Lib.hid (And.intro hc hcm)
  have hlp := length_putL (n := xs.length) (by omega)
  have hfl : (frameL xs).length = (putL xs.length).length + xs.length + 4 := by rw [frameL, List.length_append, List.length_append, length_fourL]
  obtain ⟨ps, hps⟩ : ∃ ps, putL xs.length = ps := ⟨_, rfl⟩
  obtain ⟨qs, hqs⟩ : ∃ qs, fourL (sumL xs) = qs := ⟨_, rfl⟩
  have hq4 : qs.length = 4 := by rw [← hqs]; rfl
  have hcat : ps ++ xs ++ qs = frameL xs := by rw [frameL, hps, hqs]
  have HPs := Lib.hid hps
  have HQs := Lib.hid hqs
  have HCat := Lib.hid hcat
  have HFl := Lib.hid (show (frameL xs).length ≤ 140737488355328 ∧ 1 ≤ (frameL xs).length by omega)
  have HQ4 := Lib.hid hq4
  clear hr hA ht hc hcm hps hqs hcat hfl hlp hq4
  go_enter Tryd.func21, Tryd.ntmps21
  go_wp2_with (first
    | (go_at_call 14; refine (put_nil _ _ (by omega)).mono ?_; rintro e w1 hg; rw [HPs.out] at hg; obtain ⟨a1, c1, rfl, g1, g2⟩ := hg; have HO1 := Lib.hid g1; have HU1 := Lib.hid g2; clear g1 g2)
    | (go_at_call 55; refine (wire_sum4 _ c (HR.out.keep HU1.out) (by omega) (HT.out.upd HU1.out (fun f => f))).mono ?_; rintro e w2 hg; rw [HQs.out] at hg; obtain ⟨a2, c2, rfl, g1, g2⟩ := hg; have HE2 := Lib.hid (show Elem (Fr w1 w2) w2 (.slice a2 4 c2) qs from ⟨a2, c2, by rw [HQ4.out], g1.row, g1.noneCap, by rw [HQ4.out]; exact g1.le.1, g1.le.2⟩); have HU2 := Lib.hid g2; clear g1 g2)
    | (go_at_call 54; refine (concat3 _ ((HO1.out.keep HU2.out).elem) ⟨a, c, rfl, (HR.out.keep HU1.out).keep HU2.out, HAn.out, HC.out.1, HC.out.2⟩ HE2.out (by rw [HCat.out]; exact HFl.out.1) (by rw [HCat.out]; exact HFl.out.2)).mono ?_; rintro e w3 hg; rw [HCat.out] at hg; obtain ⟨a3, c3, rfl, g1, g2⟩ := hg; have HO3 := Lib.hid g1; have HU3 := Lib.hid g2; clear g1 g2))
  go_ret2
  have z1 := HU1.out.size
  have z2 := HU2.out.size
  refine ⟨a3, c3, rfl, HO3.out.mono (fun k hk => ⟨by have := hk.1; simp only [World.size_alloc] at this; omega, hk.2⟩), ((HU1.out.trans HU2.out (fun _ f _ => f)).alloc _).trans HU3.out (fun _ f _ => f)⟩
end Go.Proofs.YtbaombnnagidcaaDoor
