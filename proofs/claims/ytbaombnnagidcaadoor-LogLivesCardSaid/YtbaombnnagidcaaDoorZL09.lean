/- The reader: Byte, End; parse of the program. -/
import Derived.Test.YtbaombnnagidcaaDoorZL08

namespace Go.Proofs.YtbaombnnagidcaaDoor
open Go.RowKit

theorem rd_Byte_no {F : Nat → Prop} (w : World) {s : Nat} {l : List UInt8} {p : Nat} (h : Rd F w s l p) (hp : l.drop p = []) :
    Calls Tryd.prog 96 #[.pointer (some ⟨s, 0, none⟩)] w fun e w' => e = .returned (.tuple #[.int .u8 0, .int .i64 10]) ∧ Upd Nil w w' := by
  have HN := Lib.hid (rd_none_no w h)
  have HR := Lib.hid (rd_rest w h)
  clear h
  rw [hp] at HR
  clear hp
  go_enter Tryd.func96, Tryd.ntmps96
  go_wp2_with (first
    | (go_at_call 58; refine HN.out.mono ?_; rintro e w' ⟨rfl, rfl⟩)
    | (go_at_call 56; refine HR.out.mono ?_; rintro e w1 ⟨a1, c1, rfl, _, _, _, _, h5⟩; have HU1 := Lib.hid h5; clear h5))
  go_ret2
  exact ⟨rfl, HU1.out⟩

set_option maxHeartbeats 1000000 in
theorem rd_Byte_yes {F : Nat → Prop} (w : World) {s : Nat} {l : List UInt8} {p : Nat} (h : Rd F w s l p) (hp : p < l.length) :
    Calls Tryd.prog 96 #[.pointer (some ⟨s, 0, none⟩)] w (RdGot F w s (.tuple #[.int .u8 (l[p].toNat : Int), .int .i64 0]) l (p + 1)) := by
  have HD := Lib.hid h
  have HN := Lib.hid (rd_none_no w h)
  have HR := Lib.hid (rd_rest w h)
  obtain ⟨R, a, c, h1, h2, h3, h4, h5, h6, h7, h8⟩ := h
  have hc0 : w.cell? ⟨s, 0, none⟩ = some (.slice a l.length c) := h3.cell 0
  have hc1 : w.cell? ⟨s, 1, none⟩ = some (.int .i64 p) := h3.cell 1
  have hcm : c ≤ 9223372036854775807 := le_max h7
  obtain ⟨b, o, rfl, hRb, hcell⟩ := rowAt h4 (bvs_get l p hp)
  have hbs : b ≠ s := (h2 b hRb).2
  obtain ⟨x, hx⟩ : ∃ x, l[p] = x := ⟨_, rfl⟩
  rw [hx] at hcell ⊢
  have hl0 : (l.drop p).length ≠ 0 := by rw [List.length_drop]; omega
  obtain ⟨xs, hxs⟩ : ∃ xs, l.drop p = xs := ⟨_, rfl⟩
  rw [hxs] at HR hl0
  have HL0 := Lib.hid (show ((xs.length : Int) == 0) = false by rw [beq_eq_false_iff_ne]; omega)
  have hl1 : ((xs.length : Int) == 0) = false := HL0.out
  have HB := Lib.hid h3
  have HFs := Lib.hid h1
  have HC0 := Lib.hid hc0
  have HC1 := Lib.hid hc1
  have HCx := Lib.hid hcell
  have HP := Lib.hid hp
  clear h1 h2 h3 h4 h5 hxs hx hc0 hc1 hcell hl0
  go_enter Tryd.func96, Tryd.ntmps96
  go_wp2_with (first
    | (go_at_call 58; refine HN.out.mono ?_; rintro e w' ⟨rfl, rfl⟩)
    | (go_at_call 56; refine HR.out.mono ?_; rintro e w1 ⟨a1, c1, rfl, _, _, _, _, g⟩; have HU := Lib.hid g; have hd1 := g.cell HC1.out (fun f => f); have hf := (HB.out.upd g (fun f => f)).frozen 1; have hs1 := (HB.out.upd g (fun f => f)).lt; clear g))
  have hm := (HD.out.keep HU.out).move (q := p + 1) (by have := HP.out; omega)
  have hu := HU.out.ofNil (G := F) |>.setCell (p := ⟨s, 1, none⟩) (.inl HFs.out) (.int .i64 ((p + 1 : Nat) : Int))
  have g0 : (w1.setCell ⟨s, 1, none⟩ (.int .i64 ((p + 1 : Nat) : Int))).cell? ⟨s, 0, none⟩ = some (.slice (some ⟨b, o, none⟩) l.length c) := by
    have := ((HB.out.upd HU.out (fun f => f)).set 1 (.int .i64 ((p + 1 : Nat) : Int))).cell 0
    simpa using this
  have g1 : (w1.setCell ⟨s, 1, none⟩ (.int .i64 ((p + 1 : Nat) : Int))).cell? ⟨s, 1, none⟩ = some (.int .i64 ((p : Int) + 1)) := by
    have := ((HB.out.upd HU.out (fun f => f)).set 1 (.int .i64 ((p + 1 : Nat) : Int))).cell 1
    simpa using this
  have gx : (w1.setCell ⟨s, 1, none⟩ (.int .i64 ((p + 1 : Nat) : Int))).cell? ⟨b, o + p, none⟩ = some (.int .u8 (x.toNat : Int)) := by
    have hk := HU.out.cell HCx.out (fun f => f)
    exact (World.cell?_of_block (Below.heap_setCell w1 ⟨s, 1, none⟩ _ b hbs)).trans hk
  rw [Int.natCast_add] at hm hu g0 g1 gx
  obtain ⟨W, hW⟩ : ∃ W, w1.setCell ⟨s, 1, none⟩ (.int .i64 ((p : Int) + ((1 : Nat) : Int))) = W := ⟨_, rfl⟩
  rw [hW] at hm hu g0 g1 gx
  have hW' : w1.setCell ⟨s, 1, none⟩ (.int .i64 ((p : Int) + 1)) = W := hW
  rw [hW']
  have e3 : IntKind.i64.wrap ((p : Int) + 1 - 1) = (p : Int) := by rw [IntWalk.i64_in _ (by have := HP.out; omega)]; omega
  have e4 : (p : Int) + 1 - 1 = (p : Int) := by omega
  have b1 : (0 : Int) ≤ (p : Int) := by omega
  have b2 : (p : Int) < (l.length : Int) := by have := HP.out; omega
  have HM := Lib.hid hm
  have HUW := Lib.hid hu
  clear hm hu hW hd1 hf hs1 hW'
  go_quiet (fail)
  go_wp2
  go_ret2
  exact ⟨rfl, HM.out.keep ((Upd.refl Nil W).drewN _), HUW.out.drewN _⟩

/-- the code of End -/
def endZ (n : Nat) : Int := if n = 0 then 0 else 14
theorem rd_End {F : Nat → Prop} (w : World) {s : Nat} {l : List UInt8} {p : Nat} (h : Rd F w s l p) :
    Calls Tryd.prog 97 #[.pointer (some ⟨s, 0, none⟩)] w fun e w' => e = .returned (.int .i64 (endZ (l.drop p).length)) ∧ Upd Nil w w' := by
  have HN := Lib.hid (rd_none_no w h)
  have HL := Lib.hid (rd_Left w h)
  clear h
  obtain ⟨n, hn⟩ : ∃ n, (l.drop p).length = n := ⟨_, rfl⟩
  rw [hn] at HL ⊢
  clear hn
  by_cases h0 : n = 0
  · subst h0
    go_enter Tryd.func97, Tryd.ntmps97
    go_wp2_with (first
      | (go_at_call 58; refine HN.out.mono ?_; rintro e w' ⟨rfl, rfl⟩)
      | (go_at_call 26; refine HL.out.mono ?_; rintro e w1 ⟨rfl, g⟩; have HU := Lib.hid g; clear g))
    go_ret
    exact ⟨rfl, HU.out⟩
  · have h1 : (0 : Int) < (n : Int) := by omega
    have hz : endZ n = 14 := if_neg h0
    rw [hz]
    go_enter Tryd.func97, Tryd.ntmps97
    go_wp2_with (first
      | (go_at_call 58; refine HN.out.mono ?_; rintro e w' ⟨rfl, rfl⟩)
      | (go_at_call 26; refine HL.out.mono ?_; rintro e w1 ⟨rfl, g⟩; have HU := Lib.hid g; clear g))
    go_ret
    exact ⟨rfl, HU.out⟩
end Go.Proofs.YtbaombnnagidcaaDoor
