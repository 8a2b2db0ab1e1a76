/- WirePuts: the walk. -/
import Derived.Test.YtbaombnnagidcaaDoorSum
import Derived.Test.YtbaombnnagidcaaDoorText
namespace Go.Proofs.YtbaombnnagidcaaDoor.wirePuts
open Go.RowKit

theorem sum_nil (w : World) (ht : Tab w) : Calls Tryd.prog 19 #[.slice none 0 0] w fun e w' => e = .returned (.int .u32 0) ∧ w = w' := by
  have := wire_Sum (F := Nil) w (xs := []) 0 (Row.nil _ _ none) (by decide) ht
  refine this.mono fun e w' ⟨he, hw⟩ => ⟨?_, hw⟩
  rw [he]
  rfl

set_option maxRecDepth 100000 in
set_option maxHeartbeats 2000000 in
theorem walk {F : Nat → Prop} (w : World) {a : Option Addr} (c : Nat) {xs : List UInt8} (hr : Row F w a (bvs xs)) (hA : a = none → c = 0) (n : Int) (hn : n < 9223372036854775808) (s : ByteArray) (hb : xs.length + s.size ≤ 1048576) (ht : Tab w) :
    Calls Tryd.prog 3 #[.slice a xs.length c, .int .i64 n, .string s] w fun e w' => e = .returned (.bool true) ∧ Upd Nil w w' := by
  have HR := Lib.hid hr.inHeap
  have HAn := Lib.hid hA
  have HT := Lib.hid ht
  have HN := Lib.hid hn
  have h00 := World.block_lt_of_cell? w _ (ht 0 (by decide))
  obtain ⟨ys, hys⟩ : ∃ ys, xs ++ putZ n = ys := ⟨_, rfl⟩
  obtain ⟨zs, hzs⟩ : ∃ zs, xs ++ textL s = zs := ⟨_, rfl⟩
  have hyl : ys.length ≤ 9223372036854775807 := by
    rw [← hys, List.length_append]
    have := length_putZ hn
    omega
  have HY := Lib.hid hys
  have HZ := Lib.hid hzs
  clear hr hA ht hn hys hzs
  go_enter Tryd.func3, Tryd.ntmps3
  go_wp2_with (first
    | (go_at_call 13; refine (bytesClone _ c HR.out (by omega)).mono ?_; rintro e w1 ⟨a1, c1, rfl, h1, h2⟩; have HO1 := Lib.hid h1; have HU1 := Lib.hid h2; clear h1 h2)
    | (go_at_call 14; refine (wire_Put _ c1 HO1.out.row HO1.out.noneCap (by omega) n HN.out).mono ?_; rintro e w2 hg; rw [HY.out] at hg; obtain ⟨a2, c2, rfl, h1, h2⟩ := hg; have HO2 := Lib.hid h1; have HU2 := Lib.hid h2; clear h1 h2)
    | (go_at_call 15; refine (wire_Text _ c1 (HO1.out.keep HU2.out).row HO1.out.noneCap s (by omega)).mono ?_; rintro e w3 hg; rw [HZ.out] at hg; obtain ⟨a3, c3, rfl, h1, h2⟩ := hg; have HO3 := Lib.hid h1; have HU3 := Lib.hid h2; have HR3 := Lib.hid (((HR.out.keep HU1.out).keep HU2.out).keep h2); clear h1 h2)
    | (go_at_call 17; refine (ref_Put _ c HR3.out HAn.out (by omega) n HN.out).mono ?_; rintro e w4 hg; rw [HY.out] at hg; obtain ⟨a4, c4, rfl, h1, h2⟩ := hg; have HO4 := Lib.hid h1; have HU4 := Lib.hid h2; clear h1 h2)
    | (go_at_call 18; refine (ref_Text _ c (HR3.out.keep HU4.out) HAn.out s (by omega)).mono ?_; rintro e w5 hg; rw [HZ.out] at hg; obtain ⟨a5, c5, rfl, h1, h2⟩ := hg; have HO5 := Lib.hid h1; have HU5 := Lib.hid h2; clear h1 h2)
    | (go_at_call 16; refine (bytesEqual_yes _ c3 c5 (((HO3.out.keep HU4.out).keep HU5.out)).row HO5.out.row rfl).mono ?_; rintro e w' ⟨rfl, rfl⟩)
    | (go_at_call 16; refine (bytesEqual_yes _ c2 c4 (((HO2.out.keep HU3.out).keep HU4.out)).row HO4.out.row rfl).mono ?_; rintro e w' ⟨rfl, rfl⟩)
    | (go_at_call 19; refine (wire_Sum _ c1 ((((HO1.out.keep HU2.out).keep HU3.out).keep HU4.out).keep HU5.out).row (by omega) (((((HT.out.upd HU1.out (fun f => f)).upd HU2.out (fun f => f)).upd HU3.out (fun f => f)).upd HU4.out (fun f => f)).upd HU5.out (fun f => f))).mono ?_; rintro e w' ⟨rfl, rfl⟩)
    | (go_at_call 20; refine (ref_Sum _ c ((HR3.out.keep HU4.out).keep HU5.out) (by omega)).mono ?_; rintro e w' ⟨rfl, rfl⟩))
  have HT5 := Lib.hid (((((HT.out.upd HU1.out (fun f => f)).upd HU2.out (fun f => f)).upd HU3.out (fun f => f)).upd HU4.out (fun f => f)).upd HU5.out (fun f => f))
  have HOx := Lib.hid (((HO2.out.keep HU3.out).keep HU4.out).keep HU5.out)
  have HOg := Lib.hid ((((HO1.out.keep HU2.out).keep HU3.out).keep HU4.out).keep HU5.out)
  have HRg := Lib.hid ((HR3.out.keep HU4.out).keep HU5.out)
  have HG := Lib.hid (show (∀ k, Fr w1 w2 k → ¬ k = 0) ∧ (∀ k, Fr w w1 k → ¬ Fr w1 w2 k) from ⟨fun k hk e => by have := hk.1; have := HU1.out.size; omega, fun k hk f => by have := hk.2; have := f.1; omega⟩)
  go_wp2
  go_loopg [42] ys.length (fun k i wr => ∃ j : Nat, j + k = ys.length ∧ i = .int .i64 j ∧ ∃ cs, Own (Fr w1 w2) wr 5 1 a2 ys.length c2 cs ∧ (∀ q, j ≤ q → cs[q]? = (bvs ys)[q]?) ∧ Upd (Fr w1 w2) w5 wr)
  case atStart => exact ⟨0, by omega, rfl, _, HOx.out, fun _ _ => rfl, Upd.refl _ _⟩
  case round =>
    obtain ⟨j, hjk, rfl, cs, hown, hsame, hup⟩ := hrel
    have hjn : j ≤ ys.length := by omega
    have HJ := Lib.hid hjk
    have HO := Lib.hid hown
    have HS := Lib.hid hsame
    have HU := Lib.hid hup
    clear hjk hown hsame hup
    by_cases hlt : j < ys.length
    · have hcs : cs[j]? = some (.int .u8 (ys[j]).toNat) := by rw [HS.out j (Nat.le_refl _)]; exact bvs_get ys j hlt
      obtain ⟨g, rfl, hF⟩ := HO.out.isNone (by omega)
      have hc : wr.cell? ⟨g, j, none⟩ = some (.int .u8 (ys[j]).toNat) := ownCell HO.out hcs
      have hf : wr.frozen? ⟨g, j, none⟩ = false := HO.out.frozen rfl j
      have HC := Lib.hid hcs
      clear hcs
      go_wp2
      go_roundg (gk - 1)
      case measure => have := HJ.out; omega
      case rel =>
        refine ⟨j + 1, by have := HJ.out; omega, by go_num, _, HO.out.stored rfl j _, fun q hq => ?_, HU.out.setCell (.inl hF) _⟩
        rw [List.getElem?_set_ne (by omega)]
        exact HS.out q (by omega)
    · have HT6 := Lib.hid (HT5.out.upd HU.out (fun f => HG.out.1 _ f rfl))
      go_wp2_with (first
        | (go_at_call 16; refine (bytesEqual_yes _ c1 c (HOg.out.upd HU.out HG.out.2).row (HRg.out.upd HU.out (fun k hk f => by have := hk.2; have := f.1; have := HU1.out.size; omega)) rfl).mono ?_; rintro e w' ⟨rfl, rfl⟩)
        | (go_at_call 19; refine (sum_nil _ HT6.out).mono ?_; rintro e w' ⟨rfl, rfl⟩))
      go_ret
      refine ⟨rfl, ?_⟩
      exact (((((HU1.out.trans HU2.out (fun _ f _ => f)).trans HU3.out (fun _ f _ => f)).trans HU4.out (fun _ f _ => f)).trans HU5.out (fun _ f _ => f)).trans HU.out (fun k hk hlt => by have := hk.1; have := HU1.out.size; omega))
end Go.Proofs.YtbaombnnagidcaaDoor.wirePuts
