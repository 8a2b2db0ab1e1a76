/- Two disks with the same sectors and writes: SameSent, SameDisks. -/
import Derived.Test.YtbaombnnagidcaaDoorRefDisk
import Derived.Test.YtbaombnnagidcaaDoorSame
import Derived.Deep.RegionHeld3
namespace Go.Proofs.YtbaombnnagidcaaDoor
open Go.RowKit

theorem sameSent1 {E E' : Nat → Prop} (w : World) {i : Nat} {v u : Value} {xs : List UInt8} (hv : Elem E w v xs) (hu : Elem E' w u xs) :
    Calls Tryd.prog 123 #[.agg #[.int .i64 i, v], .agg #[.int .i64 i, u]] w fun e w' => e = .returned (.bool true) ∧ Upd Nil w w' := by
  obtain ⟨a, c, rfl, ra, _⟩ := hv
  obtain ⟨b, d, rfl, rb, _⟩ := hu
  have HA := Lib.hid ra
  have HB := Lib.hid rb
  clear ra rb
  go_enter Tryd.func123, Tryd.ntmps123
  go_wp2_with (go_at_call 16; refine (bytesEqual_yes _ c d ((HA.out.alloc _).alloc _) ((HB.out.alloc _).alloc _) rfl).mono ?_; rintro e w' ⟨rfl, rfl⟩)
  go_ret
  exact ⟨rfl, ((Upd.refl Nil w).alloc _).alloc _⟩

set_option maxHeartbeats 1000000 in
theorem equalSent {F G E E' : Nat → Prop} (w : World) {A B : Option Addr} (n c m d : Nat) {vs us : List Value} {l : List Snt} (hA : Own F w 145 2 A n c vs) (hB : Own G w 145 2 B m d us)
    (h1 : Sents E w vs l) (h2 : Sents E' w us l) :
    Calls Tryd.prog 122 #[.slice A l.length c, .slice B l.length d, .func (.func 123) #[] #[]] w fun e w' => e = .returned (.bool true) ∧ Upd Nil w w' := by
  have hll := h1.length
  have hle := hA.le
  have hn := hA.1
  have hln : l.length ≤ 9223372036854775807 := by simp only [maxLen] at hle; omega
  have HA := Lib.hid hA
  have HB := Lib.hid hB
  have H1 := Lib.hid h1
  have H2 := Lib.hid h2
  clear hA hB h1 h2 hll hle hn
  go_enter Tryd.func122, Tryd.ntmps122
  go_wp2
  go_loopg [17] l.length (fun k i wr => ∃ j : Nat, j + k = l.length ∧ i = .int .i64 j ∧ Upd Nil w wr)
  case atStart => exact ⟨0, by omega, rfl, Upd.refl _ _⟩
  case round =>
    obtain ⟨j, hjk, rfl, hup⟩ := hrel
    have hjn : j ≤ l.length := by omega
    have HJ := Lib.hid hjk
    have HU := Lib.hid hup
    clear hjk hup
    by_cases hlt : j < l.length
    · obtain ⟨b1, v, rfl, _, hcA0, hcB0, hel0⟩ := sentAt HA.out H1.out hlt
      obtain ⟨b2, u, rfl, _, hdA0, hdB0, hem0⟩ := sentAt HB.out H2.out hlt
      have hcA := HU.out.cell hcA0 (fun f => f)
      have hcB := HU.out.cell hcB0 (fun f => f)
      have hdA := HU.out.cell hdA0 (fun f => f)
      have hdB := HU.out.cell hdB0 (fun f => f)
      obtain ⟨⟨i, xs⟩, hij⟩ : ∃ q, l[j] = q := ⟨_, rfl⟩
      rw [hij] at hcA hdA hel0 hem0
      have hl1 := World.block_lt_of_cell? _ _ hcA
      have hl2 := World.block_lt_of_cell? _ _ hdA
      obtain ⟨av, cv, rfl⟩ : ∃ av cv, v = .slice av xs.length cv := by obtain ⟨ax, cx, e, _⟩ := hel0; exact ⟨ax, cx, e⟩
      obtain ⟨au, cu, rfl⟩ : ∃ av cv, u = .slice av xs.length cv := by obtain ⟨ax, cx, e, _⟩ := hem0; exact ⟨ax, cx, e⟩
      have HE1 := Lib.hid (hel0.keep HU.out)
      have HE2 := Lib.hid (hem0.keep HU.out)
      clear hcA0 hcB0 hdA0 hdB0 hel0 hem0 hij
      go_wp2_with (go_at_call 123; refine (sameSent1 _ (HE1.out.keep (((Upd.refl Nil wr).alloc _).alloc _)) (HE2.out.keep (((Upd.refl Nil wr).alloc _).alloc _))).mono ?_; rintro e w1 ⟨rfl, hu1⟩; have HU1 := Lib.hid hu1; clear hu1)
      go_roundg (gk - 1)
      case measure => have := HJ.out; omega
      case rel => exact ⟨j + 1, by have := HJ.out; omega, by go_num, ((HU.out.alloc _).alloc _).trans HU1.out (fun _ f _ => f)⟩
    · go_wp2
      go_ret
      exact ⟨rfl, HU.out⟩

theorem sameSent {F G E E' : Nat → Prop} (w : World) {A B : Option Addr} (n c m d : Nat) {vs us : List Value} {l : List Snt} (hA : Own F w 145 2 A n c vs) (hB : Own G w 145 2 B m d us)
    (h1 : Sents E w vs l) (h2 : Sents E' w us l) :
    Calls Tryd.prog 116 #[.slice A l.length c, .slice B l.length d] w fun e w' => e = .returned (.bool true) ∧ Upd Nil w w' := by
  have H := Lib.hid (equalSent w n c m d hA hB h1 h2)
  clear hA hB h1 h2
  go_enter Tryd.func116, Tryd.ntmps116
  go_wp2_with (go_at_call 122; refine H.out.mono ?_; rintro e w1 ⟨rfl, hu1⟩)
  go_ret
  exact ⟨rfl, hu1⟩

theorem DRep.drew {t : TypeId} {F : Nat → Prop} {w : World} {s : Nat} {B : List (List UInt8)} {P : List Snt} (h : DRep t F w s B P) : DRep t F w.drew s B P := h.upd (Upd.refl Nil w).drew (fun _ _ f => f)

set_option maxRecDepth 100000 in
set_option maxHeartbeats 4000000 in
theorem sameDisks {F G : Nat → Prop} (w : World) {s t : Nat} {B : List (List UInt8)} {P : List Snt} (h : DiskRep F w s B P) (k : XRep G w t B P) (hf : Fine B P) (hP : P.length ≤ 4000000000000) :
    Calls Tryd.prog 85 #[.pointer (some ⟨s, 0, none⟩), .pointer (some ⟨t, 0, none⟩)] w fun e w' => e = .returned (.bool true) ∧ Upd Nil w w' := by
  have HD := Lib.hid h
  have HX := Lib.hid k
  have HF := Lib.hid hf
  have HP := Lib.hid hP
  obtain ⟨R, Q, E, a, c, vs, p, d, us, hFs, hR, hQ, hE, hb, hr, hq, hall, hsent⟩ := k
  have hc0 : w.cell? ⟨t, 0, none⟩ = some (.slice a B.length c) := hb.cell 0
  have hc1 : w.cell? ⟨t, 1, none⟩ = some (.slice p P.length d) := hb.cell 1
  have HQ := Lib.hid hq
  have HSe := Lib.hid hsent
  clear h hf hR hQ hE hb hr hq hall hsent hP
  go_enter Tryd.func85, Tryd.ntmps85
  go_wp2_with fail
  go_region_held3 (fun W => W.cell? ⟨t, 0, none⟩ = some (.slice a B.length c) ∧ W.cell? ⟨t, 1, none⟩ = some (.slice p P.length d)) (first | exact ⟨hcD, hdD⟩ | exact ⟨hcC, hdC⟩ | exact ⟨hcB, hdB⟩ | exact ⟨hcA, hdA⟩ | exact ⟨hc0, hc1⟩)
    (first
    | (go_at_call 39; refine (disk_Sectors _ HD.out.drew).mono ?_; rintro e w' ⟨rfl, rfl⟩)
    | (go_at_call 114; refine (disk_Image _ HD.out.drew (by have := HF.out.le; omega) (fun x hx => by rw [HF.out.size x hx]; decide)).mono ?_; rintro e w1 ⟨R1, E1, a1, c1, v1, rfl, h1, _, _, h4⟩; have HI1 := Lib.hid h1; have HU1 := Lib.hid h4; have hcA := h4.cell hc0 (fun f => f); have hdA := h4.cell hc1 (fun f => f); clear h1 h4)
    | (go_at_call 115; refine (x_Image _ (HX.out.drew.upd HU1.out (fun _ _ f => f)) (by have := HF.out.le; omega) (fun x hx => by rw [HF.out.size x hx]; decide)).mono ?_; rintro e w2 ⟨R2, E2, a2, c2, v2, rfl, h1, _, _, h4⟩; have HI2 := Lib.hid h1; have HU2 := Lib.hid h4; have hcB := h4.cell hcA (fun f => f); have hdB := h4.cell hdA (fun f => f); clear h1 h4)
    | (go_at_call 113; refine (sameImage_yes _ c1 c2 (HI1.out.own.keep HU2.out).row HI2.out.own.row (HI1.out.all.mono (fun v x h => h.keep HU2.out)) HI2.out.all rfl rfl (by have := HF.out.le; omega)).mono ?_; rintro e w' ⟨rfl, rfl⟩)
    | (go_at_call 107; refine (disk_Pending _ ((HD.out.drew.upd HU1.out (fun _ _ f => f)).upd HU2.out (fun _ _ f => f)) HP.out (fun x hx => by rw [(HF.out.sent x hx).2]; decide)).mono ?_; rintro e w3 ⟨R3, E3, p3, d3, u3, rfl, h1, _, _, h4⟩; have HS3 := Lib.hid h1; have HU3 := Lib.hid h4; have hcC := h4.cell hcB (fun f => f); have hdC := h4.cell hdB (fun f => f); clear h1 h4)
    | (go_at_call 116; refine (sameSent _ _ d3 _ d HS3.out.own (((HQ.out.drew.keep HU1.out).keep HU2.out).keep HU3.out) HS3.out.all (HSe.out.mono (fun v x h => (((h.keep (Upd.refl Nil _).drew).keep HU1.out).keep HU2.out).keep HU3.out))).mono ?_; rintro e w4 ⟨rfl, h4⟩; have HU4 := Lib.hid h4; have hcD := h4.cell hcC (fun f => f); have hdD := h4.cell hdC (fun f => f); clear h4))
  all_goals go_wp2
  all_goals go_ret
  all_goals exact ⟨rfl, ((HU1.out.ofDrew.trans HU2.out (fun _ f _ => f)).trans HU3.out (fun _ f _ => f)).trans HU4.out (fun _ f _ => f)⟩
end Go.Proofs.YtbaombnnagidcaaDoor
