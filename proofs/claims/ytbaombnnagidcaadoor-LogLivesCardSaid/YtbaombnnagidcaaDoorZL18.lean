/- The document's disk: copied, New, Write, Read, Image. -/
import Derived.Test.YtbaombnnagidcaaDoorZL17
import Derived.Test.YtbaombnnagidcaaDoorZL14
import Derived.IntWalk
import Derived.Test.YtbaombnnagidcaaDoorZL07
import Derived.Deep.RegionHeld3

namespace Go.Proofs.YtbaombnnagidcaaDoor
open Go.RowKit

abbrev XRep := DRep 155

theorem copied02 {F : Nat → Prop} (w : World) {a : Option Addr} (c : Nat) {xs : List UInt8} (hr : Row F w a (bvs xs)) (hA : a = none → c = 0) (hx : xs.length ≤ 140737488355328) :
    Calls Tryd.prog 108 #[.slice a xs.length c] w (RetOwn w 5 1 xs.length (bvs xs)) := by
  obtain ⟨i0, hi, hz0, hz1, hz2⟩ := info_parts infoU8
  have Q := Lib.hid hr
  have QA := Lib.hid hA
  clear hr hA
  go_enter Tryd.func108, Tryd.ntmps108
  go_wp2_with (at_builtin; refine wpList_append_Own rfl _ _ _ rfl Tryd.underlying22 hi hz0 hz1 hz2 rfl (by decide) rfl (own_empty w) rfl (Q.out.alloc _) (by simp) (bvs_one xs) QA.out (by simp only [maxLen]; omega) (by omega) ?_)
  intro a' c' w' hown hup hne
  go_wp2
  go_ret
  refine ⟨a', c', rfl, (by simpa using hown : Own _ w' _ 1 a' xs.length c' (bvs xs)).mono ?_, ?_⟩
  · rintro k (⟨h1, h2⟩ | ⟨h1, h2⟩)
    · exact ⟨h1, Nat.lt_of_lt_of_le h2 hup.size⟩
    · exact ⟨by simp at h1; omega, h2⟩
  · exact ((Upd.refl Nil w).alloc _).trans hup (fun k h1 h2 => by have := h1.1; omega)

theorem x_Write_no {F : Nat → Prop} (w : World) {s : Nat} {B : List (List UInt8)} {P : List Snt} (h : XRep F w s B P) {i : Int} (hi : NoSector B i) (a : Option Addr) (n c : Nat) :
    Calls Tryd.prog 117 #[.pointer (some ⟨s, 0, none⟩), .int .i64 i, .slice a n c] w fun e w' => e = .returned (.int .i64 1) ∧ w = w' := by
  obtain ⟨R, Q, E, al, cl, vs, p, d, us, hFs, hR, hQ, hE, hb, hown, hq, hall, hsent⟩ := h
  have hc0 : w.cell? ⟨s, 0, none⟩ = some (.slice al B.length cl) := hb.cell 0
  clear hb hown hq hall hsent hR hQ hE
  by_cases h0 : i < 0
  · clear hi
    go_enter Tryd.func117, Tryd.ntmps117
    go_wp2
    go_ret
    exact ⟨rfl, rfl⟩
  · obtain ⟨m, rfl⟩ : ∃ m : Nat, i = m := ⟨i.toNat, by omega⟩
    have hi' : B.length ≤ m := by unfold NoSector at hi; omega
    clear hi h0
    go_enter Tryd.func117, Tryd.ntmps117
    go_wp2
    go_ret
    exact ⟨rfl, rfl⟩

theorem x_Write_len {F : Nat → Prop} (w : World) {s : Nat} {B : List (List UInt8)} {P : List Snt} (h : XRep F w s B P) {i : Nat} (hi : i < B.length) (a : Option Addr) (n c : Nat) (hn : n ≠ 128) :
    Calls Tryd.prog 117 #[.pointer (some ⟨s, 0, none⟩), .int .i64 i, .slice a n c] w fun e w' => e = .returned (.int .i64 1) ∧ w = w' := by
  obtain ⟨R, Q, E, al, cl, vs, p, d, us, hFs, hR, hQ, hE, hb, hown, hq, hall, hsent⟩ := h
  have hc0 : w.cell? ⟨s, 0, none⟩ = some (.slice al B.length cl) := hb.cell 0
  clear hb hown hq hall hsent hR hQ hE
  have hne : ((n : Int) != 128) = true := by rw [bne_iff_ne]; omega
  have hne' : ((n : Int) == 128) = false := by rw [beq_eq_false_iff_ne]; omega
  go_enter Tryd.func117, Tryd.ntmps117
  go_wp2
  go_ret
  exact ⟨rfl, rfl⟩

set_option maxRecDepth 100000 in
set_option maxHeartbeats 1000000 in
theorem x_Write_yes {F G : Nat → Prop} (w : World) {s : Nat} {B : List (List UInt8)} {P : List Snt} (h : XRep F w s B P) {i : Nat} (hi : i < B.length) (hP : P.length ≤ 4000000000000) {a : Option Addr} (c : Nat) {xs : List UInt8} (hr : Row G w a (bvs xs)) (hA : a = none → c = 0) (hx : xs.length = 128) :
    Calls Tryd.prog 117 #[.pointer (some ⟨s, 0, none⟩), .int .i64 i, .slice a xs.length c] w (DGot 155 F w s (.int .i64 0) B (P ++ [(i, xs)])) := by
  have HD := Lib.hid h
  obtain ⟨R, Q, E, al, cl, vs, p, d, us, hFs, hR, hQ, hE, hb, hrow, hq, hall, hsent⟩ := h
  have hc1 : w.cell? ⟨s, 1, none⟩ = some (.slice p P.length d) := hb.cell 1
  have hc0 : w.cell? ⟨s, 0, none⟩ = some (.slice al B.length cl) := hb.cell 0
  obtain ⟨i0, hi1, hz0, hz1, hz2⟩ := info_parts infoSent
  have hi0 := Lib.hid (And.intro hi1 (And.intro hz0 (And.intro hz1 hz2)))
  clear hi1 hz0 hz1 hz2
  have HC1 := Lib.hid hc1
  have HB := Lib.hid hb
  have HQ := Lib.hid hq
  have HR := Lib.hid hr
  have HAn := Lib.hid hA
  have HRow := Lib.hid hrow
  have HA := Lib.hid hall
  have HSe := Lib.hid hsent
  have HRs := Lib.hid hR
  have HQs := Lib.hid hQ
  have HEs := Lib.hid hE
  have HX := Lib.hid hx
  clear hb hq hr hrow hall hsent hR hQ hE hA
  rw [hx]
  clear hx
  go_enter Tryd.func117, Tryd.ntmps117
  go_wp2
  go_region_law (first
    | (go_simp; go_at_call 108; rw [← HX.out]; refine (copied02 _ c HR.out.drew HAn.out (by rw [HX.out]; decide)).mono ?_; rintro e w1 ⟨a1, c1, rfl, hown1, hup1⟩
       have HO1 := Lib.hid hown1; have HU1 := Lib.hid hup1; clear hown1 hup1
       have hd0 := HU1.out.cell (a := ⟨s, 1, none⟩) HC1.out (fun f => f); have hlt1 : s < w1.heap.size := World.block_lt_of_cell? w1 _ hd0)
    | (refine step_append_Own rfl (.tmp 27) (.tmp 32) 74 rfl Tryd.underlying74 hi0.out.1 hi0.out.2.1 hi0.out.2.2.1 hi0.out.2.2.2 rfl (by decide) rfl ((HQ.out.drew.keep HU1.out).alloc _) rfl (Own.lit (t := 145) (sz := 2) w1 #[.int .i64 i, .slice a1 xs.length c1] 1 (by decide) rfl).row (by simp) (by simp [Value.oneCell']) (by intro h; cases h) (by simp only [maxLen]; omega) (by omega) ?_
       intro a2 c2 w2 hown2 hup2 hne2
       have hb2 := ((HB.out.drew.upd HU1.out (fun f => f)).alloc (.cells #[.int .i64 i, .slice a1 xs.length c1] 145)).upd hup2 (fun f => (HQs.out _ f).2.1 rfl)
       have HO2 := Lib.hid hown2; have HU2 := Lib.hid hup2; clear hown2 hup2 hne2
       have he0 := hb2.cell 1; have hf0 := hb2.frozen 1
       clear hb2))
  all_goals go_wp2
  all_goals go_ret
  all_goals
    obtain ⟨F', hrep, hup, hF⟩ := write_end (t := 155) hFs HRs.out HQs.out HEs.out HB.out HRow.out HA.out HSe.out (show Own (Fr w w1) w1 _ 1 _ _ _ _ from HO1.out) HU1.out.ofDrew HO2.out HU2.out
    exact ⟨rfl, F', hrep, hup, hF⟩

theorem x_Read_no {F : Nat → Prop} (w : World) {s : Nat} {B : List (List UInt8)} {P : List Snt} (h : XRep F w s B P) {i : Int} (hi : NoSector B i) :
    Calls Tryd.prog 109 #[.pointer (some ⟨s, 0, none⟩), .int .i64 i] w fun e w' => e = .returned (.tuple #[.slice none 0 0, .int .i64 1]) ∧ w = w' := by
  obtain ⟨R, Q, E, al, cl, vs, p, d, us, hFs, hR, hQ, hE, hb, hown, hq, hall, hsent⟩ := h
  have hc0 : w.cell? ⟨s, 0, none⟩ = some (.slice al B.length cl) := hb.cell 0
  clear hb hown hq hall hsent hR hQ hE
  by_cases h0 : i < 0
  · clear hi
    go_enter Tryd.func109, Tryd.ntmps109
    go_wp2
    go_ret2
    exact ⟨rfl, rfl⟩
  · obtain ⟨m, rfl⟩ : ∃ m : Nat, i = m := ⟨i.toNat, by omega⟩
    have hi' : B.length ≤ m := by unfold NoSector at hi; omega
    clear hi h0
    go_enter Tryd.func109, Tryd.ntmps109
    go_wp2
    go_ret2
    exact ⟨rfl, rfl⟩

set_option maxRecDepth 100000 in
set_option maxHeartbeats 1000000 in
theorem x_Read_yes {F : Nat → Prop} (w : World) {s : Nat} {B : List (List UInt8)} {P : List Snt} (h : XRep F w s B P) (hfine : Fine B P) (hP : P.length ≤ 4000000000000) {i : Nat} (hi : i < B.length) :
    Calls Tryd.prog 109 #[.pointer (some ⟨s, 0, none⟩), .int .i64 i] w (ToldBytes w (readOf B P i hi)) := by
  obtain ⟨R, Q, E, al, cl, vs, p, d, us, hFs, hR, hQ, hE, hb, hown, hq, hall, hsent⟩ := h
  have hc0 : w.cell? ⟨s, 0, none⟩ = some (.slice al B.length cl) := hb.cell 0
  have hc1 : w.cell? ⟨s, 1, none⟩ = some (.slice p P.length d) := hb.cell 1
  have HQ := Lib.hid hq
  have HSe := Lib.hid hsent
  have HFi := Lib.hid hfine
  have HHi := Lib.hid hi
  have HMiss := Lib.hid (fun h => readOf_miss (P := P) hi h)
  have HHit := Lib.hid (fun (j0 : Nat) (h0 : j0 < P.length) h hl => readOf_hit (B := B) (P := P) hi h0 h hl)
  obtain ⟨vb, hvb, hvel⟩ := hall.get hi
  obtain ⟨bb, ob, hal, _, hcb⟩ := rowAt hown.row hvb
  obtain ⟨ab, cb, rfl, hrb, hnb, _⟩ := hvel
  have hxb := hfine.size _ (List.getElem_mem hi)
  have HRb := Lib.hid hrb
  have HNb := Lib.hid hnb
  have HXb := Lib.hid hxb
  obtain ⟨xb, hxbe⟩ : ∃ xb, B[i]'hi = xb := ⟨_, rfl⟩
  rw [hxbe] at HRb HXb HMiss hcb
  obtain ⟨rx, hrx⟩ : ∃ rx, readOf B P i hi = rx := ⟨_, rfl⟩
  rw [hrx] at HMiss HHit ⊢
  subst hal
  have hwr : IntKind.i64.wrap ((P.length : Int) - 1) = (P.length : Int) - 1 := IntWalk.i64_in _ (by omega)
  clear hb hown hq hall hsent hR hQ hE hfine hvb hrb hnb hxb hxbe hrx
  go_enter Tryd.func109, Tryd.ntmps109
  go_wp2
  go_loopg [6] P.length (fun k v wr => w = wr ∧ k ≤ P.length ∧ (∃ z : Int, v = .int .i64 z ∧ z = (k : Int) - 1) ∧ ∀ q (hq : q < P.length), k ≤ q → (P[q]).1 ≠ i)
  case atStart => exact ⟨rfl, Nat.le_refl _, ⟨_, rfl, rfl⟩, fun q hq h => by omega⟩
  case round =>
    obtain ⟨rfl, hk, ⟨z, rfl, hz⟩, hmiss⟩ := hrel
    have HM := Lib.hid hmiss
    clear hmiss hwr
    rcases Nat.eq_zero_or_pos gk with h0 | h0
    · have hz0 : z < 0 := by omega
      have HZ := Lib.hid hz
      have H0 := Lib.hid h0
      clear hz h0
      go_wp2_with (go_at_call 108; refine (copied02 _ cb HRb.out HNb.out (by rw [HXb.out]; decide)).mono ?_; rintro e w1 ⟨a1, c1, rfl, hown1, hup1⟩; have HO1 := Lib.hid hown1; have HU1 := Lib.hid hup1; clear hown1 hup1)
      go_ret2
      have hrx := HMiss.out (fun q hq => HM.out q hq (by have := H0.out; omega))
      subst hrx
      exact ⟨a1, c1, rfl, HO1.out, HU1.out⟩
    · obtain ⟨m, hm⟩ : ∃ m, gk = m + 1 := ⟨gk - 1, by omega⟩
      obtain rfl : z = (m : Int) := by omega
      have hlt : m < P.length := by omega
      obtain ⟨b, v, rfl, _, hcA, hcB, hel⟩ := sentAt HQ.out HSe.out hlt
      obtain ⟨ax, cx, rfl, hrx, hnx, _⟩ := hel
      have hxl := (HFi.out.sent _ (List.getElem_mem hlt)).2
      have hit := HHit.out m hlt
      have HGk := Lib.hid hm
      obtain ⟨⟨pi, px⟩, hpe⟩ : ∃ q, P[m] = q := ⟨_, rfl⟩
      have HPe := Lib.hid hpe
      rw [hpe] at hcA hcB hrx hxl hit
      dsimp only at hcA hcB hrx hxl hit
      have HRx := Lib.hid hrx
      have HNx := Lib.hid hnx
      have HXl := Lib.hid hxl
      have HIt := Lib.hid hit
      clear hz h0 hm hpe hrx hnx hxl hit
      by_cases hpi : pi = i
      · have HIt2 := Lib.hid (HIt.out hpi)
        clear HIt
        subst hpi
        go_wp2_with (go_at_call 108; refine (copied02 _ cx HRx.out HNx.out (by rw [HXl.out]; decide)).mono ?_; rintro e w1 ⟨a1, c1, rfl, hown1, hup1⟩; have HO1 := Lib.hid hown1; have HU1 := Lib.hid hup1; clear hown1 hup1)
        go_ret2
        have hrx := HIt2.out (fun q hq h => HM.out q hq (by have := HGk.out; omega))
        subst hrx
        exact ⟨a1, c1, rfl, HO1.out, HU1.out⟩
      · have hne : ((pi : Int) == (i : Int)) = false := by rw [beq_eq_false_iff_ne]; omega
        have hne' : ((i : Int) == (pi : Int)) = false := by rw [beq_eq_false_iff_ne]; omega
        have HNe := Lib.hid hpi
        clear hpi
        go_wp2
        go_roundg (gk - 1)
        case measure => have := HGk.out; omega
        case rel =>
          have := HGk.out
          refine ⟨rfl, by omega, ⟨_, rfl, by omega⟩, fun q hq h => ?_⟩
          by_cases e : q = m
          · subst e
            rw [HPe.out]
            exact HNe.out
          · exact HM.out q hq (by omega)

set_option maxHeartbeats 1000000 in
theorem x_Image {F : Nat → Prop} (w : World) {s : Nat} {B : List (List UInt8)} {P : List Snt} (h : XRep F w s B P) (hl : B.length ≤ 1000000) (hx : ∀ x ∈ B, x.length ≤ 140737488355328) :
    Calls Tryd.prog 115 #[.pointer (some ⟨s, 0, none⟩)] w (GotRows w B) := by
  obtain ⟨R, Q, E, al, cl, vs, p, d, us, hFs, hR, hQ, hE, hb, hown, hq, hall, hsent⟩ := h
  have hc0 : w.cell? ⟨s, 0, none⟩ = some (.slice al B.length cl) := hb.cell 0
  obtain ⟨i0, hi, hz0, hz1, hz2⟩ := info_parts infoBytes
  have hi0 := Lib.hid (And.intro hi (And.intro hz0 (And.intro hz1 hz2)))
  clear hi hz0 hz1 hz2
  have HO := Lib.hid hown
  have HA := Lib.hid hall
  have HX := Lib.hid hx
  clear hb hown hq hall hsent hR hQ hE hx
  go_enter Tryd.func115, Tryd.ntmps115
  go_wp2
  go_loopg [3, 11] B.length (fun k v i wr => ∃ j : Nat, j + k = B.length ∧ i = .int .i64 j ∧ ∃ (R' E' : Nat → Prop) (a : Option Addr) (c : Nat) (us : List Value), v = .slice a j c ∧ Rows R' E' wr a j c us (B.take j) ∧ (∀ q, R' q → Fr w wr q) ∧ (∀ q, E' q → Fr w wr q) ∧ Upd Nil w wr)
  case atStart => exact ⟨0, by omega, rfl, Nil, Nil, none, 0, [], rfl, ⟨Own.none_ _ _ _ _, trivial, rfl, fun _ f => f.elim, fun _ f => f.elim, fun _ f => f.elim⟩, fun _ f => f.elim, fun _ f => f.elim, Upd.refl _ _⟩
  case round =>
    obtain ⟨j, hjk, rfl, R', E', a, c, us, rfl, hrows, hR', hE', hup⟩ := hrel
    have hjn : j ≤ B.length := by omega
    have HJ := Lib.hid hjk
    have HRw := Lib.hid hrows
    have HR' := Lib.hid hR'
    have HE' := Lib.hid hE'
    have HU := Lib.hid hup
    clear hjk hrows hR' hE' hup
    by_cases hlt : j < B.length
    · obtain ⟨v, hv, ax, cx, rfl, rx, nx, _⟩ := HA.out.get hlt
      obtain ⟨b, o, rfl, _, hcell0⟩ := rowAt HO.out.row hv
      have hcell := HU.out.cell hcell0 (fun f => f)
      have HRx := Lib.hid (rx.keep HU.out)
      have HNx := Lib.hid nx
      clear hv hcell0 rx nx
      go_wp2_with (first
        | (go_at_call 108; refine (copied02 _ cx HRx.out HNx.out (HX.out _ (List.getElem_mem hlt))).mono ?_; rintro e w1 ⟨a1, c1, rfl, hown1, hup1⟩; have HO1 := Lib.hid hown1; have HU1 := Lib.hid hup1; clear hown1 hup1)
        | (at_builtin; refine wpList_append_Own rfl _ _ _ rfl Tryd.underlying59 hi0.out.1 hi0.out.2.1 hi0.out.2.2.1 hi0.out.2.2.2 rfl (by decide) rfl ((HRw.out.own.keep HU1.out).alloc _) rfl (one_row w1 _ _) (by simp) (by simp [Value.oneCell']) (by intro h; cases h) (by simp only [maxLen]; omega) (by omega) ?_
           intro a2 c2 w2 hown2 hup2 hne2; have HO2 := Lib.hid hown2; have HU2 := Lib.hid hup2; clear hown2 hup2 hne2))
      go_roundg (gk - 1)
      case measure => have := HJ.out; omega
      case rel =>
        obtain ⟨f0, f1, f2⟩ := fr_grow HU.out HU1.out HU2.out
        have hrows' := HRw.out.snoc HO1.out HU1.out HO2.out HU2.out
        rw [← List.take_succ_eq_append_getElem hlt] at hrows'
        refine ⟨j + 1, by have := HJ.out; omega, by go_num, _, _, a2, c2, _, rfl, hrows', ?_, ?_, ?_⟩
        · rintro q (h | h)
          · exact f0 q (HR'.out q h)
          · exact f2 q h
        · rintro q (h | h)
          · exact f0 q (HE'.out q h)
          · exact f1 q h
        · exact ((HU.out.trans HU1.out (fun _ f _ => f)).alloc _).trans HU2.out (fun k hk hlt => by have := (HR'.out k hk).1; omega)
    · obtain rfl : j = B.length := by omega
      go_wp2
      go_ret
      have hr := HRw.out
      rw [List.take_length] at hr
      exact ⟨R', E', a, c, us, rfl, hr, HR'.out, HE'.out, HU.out⟩
end Go.Proofs.YtbaombnnagidcaaDoor

namespace Go.Proofs.YtbaombnnagidcaaDoor
open Go.RowKit

set_option maxRecDepth 100000 in
set_option maxHeartbeats 2000000 in
theorem x_Flush {F : Nat → Prop} (w : World) {s : Nat} {B : List (List UInt8)} {P : List Snt} (h : XRep F w s B P) (hf : Fine B P) (hP : P.length ≤ 4000000000000) :
    Calls Tryd.prog 119 #[.pointer (some ⟨s, 0, none⟩)] w (DGot 155 F w s (.int .i64 0) (applyP B P) []) := by
  have hF0 := Lib.hid hf
  have HRep := Lib.hid h
  obtain ⟨R, Q, E, a, c, vs, p, d, us, hFs, hR, hQ, hE, hb, hr, hq, hall, hsent⟩ := h
  have hc1 : w.cell? ⟨s, 1, none⟩ = some (.slice p P.length d) := hb.cell 1
  have HC1 := Lib.hid hc1
  clear hR hQ hE hb hr hq hall hsent hf
  go_enter Tryd.func119, Tryd.ntmps119
  go_wp2
  go_loopg [10] P.length (fun k i wr => ∃ j : Nat, j + k = P.length ∧ i = .int .i64 j ∧ ∃ F', XRep F' wr s (applyP B (P.take j)) P ∧ wr.cell? ⟨s, 1, none⟩ = some (.slice p P.length d) ∧ Upd F w wr ∧ ∀ k, F' k → F k ∨ Fr w wr k)
  case atStart => exact ⟨0, by omega, rfl, F, HRep.out, hc1, Upd.refl _ _, fun _ h => .inl h⟩
  case round =>
    obtain ⟨j, hjk, rfl, F', hrep, hcp, hup, hF'⟩ := hrel
    have hjn : j ≤ P.length := by omega
    have HJ := Lib.hid hjk
    have HR := Lib.hid hrep
    have HCp := Lib.hid hcp
    have HU := Lib.hid hup
    have HF := Lib.hid hF'
    clear hjk hrep hup hF'
    by_cases hlt : j < P.length
    · have hsent := hF0.out.sent _ (List.getElem_mem hlt)
      have htk := List.take_succ_eq_append_getElem hlt
      obtain ⟨R', Q', E', a', c', vs', p', d', us', hFs', hR', _, _, hb', hr', hq', _, hs'⟩ := HR.out
      have e1 : wr.cell? ⟨s, 1, none⟩ = some (.slice p' P.length d') := hb'.cell 1
      rw [hcp] at e1
      injection e1 with e1
      injection e1 with e1 _ e3
      subst e1; subst e3
      obtain ⟨b, v, rfl, _, hcA, hcB, hel⟩ := sentAt hq' hs' hlt
      obtain ⟨⟨i, xs⟩, hij⟩ : ∃ q, P[j] = q := ⟨_, rfl⟩
      rw [hij] at hsent htk hcA hel
      obtain ⟨ax, cx, rfl, hrx, hnx, _⟩ := hel
      have hc0 : wr.cell? ⟨s, 0, none⟩ = some (.slice a' (applyP B (P.take j)).length c') := hb'.cell 0
      have hil : i < (applyP B (P.take j)).length := by rw [length_applyP]; exact hsent.1
      obtain ⟨g, rfl, hRg⟩ := hr'.isNone (by omega)
      have hgs : g ≠ s := (hR' g hRg).2.1
      have hgl := (hR' g hRg).2.2
      have hslt := hb'.lt
      have HRow := Lib.hid hr'
      have HRx := Lib.hid hrx
      have HNx := Lib.hid hnx
      have HTk := Lib.hid htk
      have HSe := Lib.hid hsent
      have HC0 := Lib.hid hc0
      clear hb' hq' hs' hrx hnx htk hsent hij hr' hR'
      go_wp2
      have HCA := Lib.hid (((Upd.refl Nil wr).alloc (.cells #[.int .i64 i, .slice ax xs.length cx] 145)).cell hc0 (fun f => f))
      have HBx := Lib.hid (Blk.new wr 145 #[.int .i64 i, .slice ax xs.length cx])
      go_region_law (go_simp; go_at_call 108; refine (copied02 _ cx (HRx.out.alloc _).drew HNx.out (by rw [HSe.out.2]; decide)).mono ?_; rintro e w1 ⟨a1, c1, rfl, hown1, hup1⟩
                     have hup1 := hup1.ofDrew
                     have hown1 : Own (Fr (wr.alloc (.cells #[.int .i64 i, .slice ax xs.length cx] 145)) w1) w1 5 1 a1 xs.length c1 (bvs xs) := hown1
                     have hrow1 := (HRow.out.alloc (.cells #[.int .i64 i, .slice ax xs.length cx] 145)).upd hup1 (fun _ _ f => f)
                     have hd0 := hup1.cell HCA.out (fun f => f)
                     have hx0 : w1.cell? ⟨wr.heap.size, 0, none⟩ = some (.int .i64 i) := (HBx.out.upd hup1 (fun f => f)).cell 0
                     have hx1 : w1.cell? ⟨wr.heap.size, 1, none⟩ = some (.slice ax xs.length cx) := (HBx.out.upd hup1 (fun f => f)).cell 1
                     have hf1 : w1.frozen? ⟨g, i, none⟩ = false := hrow1.frozen rfl i
                     obtain ⟨u, hu⟩ := hrow1.there rfl (j := i) (by have := hrow1.le; omega)
                     have HO1 := Lib.hid hown1; have HU1 := Lib.hid hup1; clear hown1 hup1 hrow1)
      all_goals go_wp2
      all_goals go_roundg (gk - 1)
      all_goals first
        | (have := HJ.out; omega)
        | (have hup : Upd Nil wr w1 := ((Upd.refl Nil wr).alloc _).trans HU1.out (fun _ f _ => f)
           have hown : Own (Fr wr w1) w1 5 1 a1 xs.length c1 (bvs xs) := HO1.out.mono (fun k hk => ⟨by have := hk.1; simp only [World.size_alloc] at this; omega, hk.2⟩)
           obtain ⟨_, F2, hrep, hupF, hF2⟩ := take_end (i := i) HR.out HC0.out rfl hown hup
           refine ⟨j + 1, by have := HJ.out; omega, by go_num, F2, ?_, ?_, ?_, ?_⟩
           · rw [HTk.out, applyP_snoc]
             exact hrep
           · exact (Upd.refl (One g) w1).setCell (p := ⟨g, i, none⟩) (.inl rfl) _ |>.cell (hup.cell HCp.out (fun f => f)) (fun e => hgs e.symm)
           · refine HU.out.trans hupF (fun k hk hlt => ?_)
             rcases HF.out k hk with h | h
             · exact h
             · have := h.1
               omega
           · intro k hk
             have hz0 := HU.out.size
             have hz1 := hup.size
             rcases hF2 k hk with h | h
             · rcases HF.out k h with h | h
               · exact .inl h
               · exact .inr ⟨h.1, by have := h.2; simp; omega⟩
             · exact .inr ⟨by have := h.1; omega, h.2⟩)
    · obtain rfl : j = P.length := by omega
      have hr := HR.out
      rw [List.take_length] at hr
      obtain ⟨_, _, _, _, _, _, _, _, _, _, _, _, _, hb', _⟩ := HR.out
      have hf0 := hb'.frozen 1
      clear hb'
      have HR2 := Lib.hid hr
      clear hr
      go_wp2
      go_ret
      exact ⟨rfl, F', clear_end HR2.out, HU.out.setCell (p := ⟨s, 1, none⟩) (.inl hFs) _, fun k hk => by rcases HF.out k hk with h | h; exact .inl h; exact .inr ⟨h.1, by simpa using h.2⟩⟩

end Go.Proofs.YtbaombnnagidcaaDoor

namespace Go.Proofs.YtbaombnnagidcaaDoor
open Go.RowKit

theorem sameImage_yes {F G E E' : Nat → Prop} (w : World) {A B : Option Addr} (c d : Nat) {n m : Nat} {vs us : List Value} {xss : List (List UInt8)} (hA : Row F w A vs) (hB : Row G w B us)
    (h1 : All2 (Elem E w) vs xss) (h2 : All2 (Elem E' w) us xss) (hn : xss.length = n) (hm : xss.length = m) (hl : xss.length ≤ 9223372036854775807) :
    Calls Tryd.prog 113 #[.slice A n c, .slice B m d] w fun e w' => e = .returned (.bool true) ∧ w = w' := by
  subst hn
  subst hm
  exact (sameImage w c d hA hB h1 h2 hl hl).mono fun _ _ ⟨he, hw⟩ => ⟨by rw [he, decide_eq_true rfl], hw⟩

theorem size_applyP {n : Nat} : ∀ {l : List Snt} {B : List (List UInt8)}, (∀ b ∈ B, b.length = n) → (∀ p ∈ l, p.2.length = n) → ∀ b ∈ applyP B l, b.length = n
  | [], _, hB, _ => hB
  | p :: l, B, hB, hl => by
    show ∀ b ∈ applyP (B.set p.1 p.2) l, b.length = n
    refine size_applyP (fun b hb => ?_) (fun q hq => hl q (List.mem_cons_of_mem _ hq))
    rcases List.mem_or_eq_of_mem_set hb with h | rfl
    · exact hB b h
    · exact hl p (List.mem_cons_self ..)
theorem kept_mem {p : Snt} : ∀ {st : List Bool} {l : List Snt}, p ∈ kept st l → p ∈ l := by
  intro st l
  induction l generalizing st with
  | nil => cases st <;> simp [kept]
  | cons q l ih =>
    cases st with
    | nil => simp [kept]
    | cons b st =>
      cases b
      · intro h
        exact List.mem_cons_of_mem _ (ih (by simpa [kept] using h))
      · intro h
        have h' : p = q ∨ p ∈ kept st l := by simpa [kept] using h
        rcases h' with rfl | h
        · exact List.mem_cons_self ..
        · exact List.mem_cons_of_mem _ (ih h)
end Go.Proofs.YtbaombnnagidcaaDoor

namespace Go.Proofs.YtbaombnnagidcaaDoor
open Go.RowKit

theorem sameSent1 {E E' : Nat → Prop} (w : World) {i : Nat} {v u : Value} {xs : List UInt8} (hv : Elem E w v xs) (hu : Elem E' w u xs) :
    Calls Tryd.prog 123 #[.agg #[.int .i64 i, v], .agg #[.int .i64 i, u]] w fun e w' => e = .returned (.bool true) ∧ Upd Nil w w' := by
  obtain ⟨a, c, rfl, ra, _⟩ := hv
  obtain ⟨b, d, rfl, rb, _⟩ := hu
  have HA := Lib.hid ra
  have HB := Lib.hid rb
  clear ra rb
  go_enter Tryd.func123, Tryd.ntmps123
  go_wp2_with (go_at_call 16; refine (bytesEqual_yes _ c d ((HA.out.alloc _).alloc _) ((HB.out.alloc _).alloc _) rfl).mono ?_; rintro e w' ⟨rfl, rfl⟩)
  go_ret
  exact ⟨rfl, ((Upd.refl Nil w).alloc _).alloc _⟩

set_option maxHeartbeats 1000000 in
theorem equalSent {F G E E' : Nat → Prop} (w : World) {A B : Option Addr} (n c m d : Nat) {vs us : List Value} {l : List Snt} (hA : Own F w 145 2 A n c vs) (hB : Own G w 145 2 B m d us)
    (h1 : Sents E w vs l) (h2 : Sents E' w us l) :
    Calls Tryd.prog 122 #[.slice A l.length c, .slice B l.length d, .func (.func 123) #[] #[]] w fun e w' => e = .returned (.bool true) ∧ Upd Nil w w' := by
  have hll := h1.length
  have hle := hA.le
  have hn := hA.1
  have hln : l.length ≤ 9223372036854775807 := by simp only [maxLen] at hle; omega
  have HA := Lib.hid hA
  have HB := Lib.hid hB
  have H1 := Lib.hid h1
  have H2 := Lib.hid h2
  clear hA hB h1 h2 hll hle hn
  go_enter Tryd.func122, Tryd.ntmps122
  go_wp2
  go_loopg [17] l.length (fun k i wr => ∃ j : Nat, j + k = l.length ∧ i = .int .i64 j ∧ Upd Nil w wr)
  case atStart => exact ⟨0, by omega, rfl, Upd.refl _ _⟩
  case round =>
    obtain ⟨j, hjk, rfl, hup⟩ := hrel
    have hjn : j ≤ l.length := by omega
    have HJ := Lib.hid hjk
    have HU := Lib.hid hup
    clear hjk hup
    by_cases hlt : j < l.length
    · obtain ⟨b1, v, rfl, _, hcA0, hcB0, hel0⟩ := sentAt HA.out H1.out hlt
      obtain ⟨b2, u, rfl, _, hdA0, hdB0, hem0⟩ := sentAt HB.out H2.out hlt
      have hcA := HU.out.cell hcA0 (fun f => f)
      have hcB := HU.out.cell hcB0 (fun f => f)
      have hdA := HU.out.cell hdA0 (fun f => f)
      have hdB := HU.out.cell hdB0 (fun f => f)
      obtain ⟨⟨i, xs⟩, hij⟩ : ∃ q, l[j] = q := ⟨_, rfl⟩
      rw [hij] at hcA hdA hel0 hem0
      have hl1 := World.block_lt_of_cell? _ _ hcA
      have hl2 := World.block_lt_of_cell? _ _ hdA
      obtain ⟨av, cv, rfl⟩ : ∃ av cv, v = .slice av xs.length cv := by obtain ⟨ax, cx, e, _⟩ := hel0; exact ⟨ax, cx, e⟩
      obtain ⟨au, cu, rfl⟩ : ∃ av cv, u = .slice av xs.length cv := by obtain ⟨ax, cx, e, _⟩ := hem0; exact ⟨ax, cx, e⟩
      have HE1 := Lib.hid (hel0.keep HU.out)
      have HE2 := Lib.hid (hem0.keep HU.out)
      clear hcA0 hcB0 hdA0 hdB0 hel0 hem0 hij
      go_wp2_with (go_at_call 123; refine (sameSent1 _ (HE1.out.keep (((Upd.refl Nil wr).alloc _).alloc _)) (HE2.out.keep (((Upd.refl Nil wr).alloc _).alloc _))).mono ?_; rintro e w1 ⟨rfl, hu1⟩; have HU1 := Lib.hid hu1; clear hu1)
      go_roundg (gk - 1)
      case measure => have := HJ.out; omega
      case rel => exact ⟨j + 1, by have := HJ.out; omega, by go_num, ((HU.out.alloc _).alloc _).trans HU1.out (fun _ f _ => f)⟩
    · go_wp2
      go_ret
      exact ⟨rfl, HU.out⟩

theorem sameSent {F G E E' : Nat → Prop} (w : World) {A B : Option Addr} (n c m d : Nat) {vs us : List Value} {l : List Snt} (hA : Own F w 145 2 A n c vs) (hB : Own G w 145 2 B m d us)
    (h1 : Sents E w vs l) (h2 : Sents E' w us l) :
    Calls Tryd.prog 116 #[.slice A l.length c, .slice B l.length d] w fun e w' => e = .returned (.bool true) ∧ Upd Nil w w' := by
  have H := Lib.hid (equalSent w n c m d hA hB h1 h2)
  clear hA hB h1 h2
  go_enter Tryd.func116, Tryd.ntmps116
  go_wp2_with (go_at_call 122; refine H.out.mono ?_; rintro e w1 ⟨rfl, hu1⟩)
  go_ret
  exact ⟨rfl, hu1⟩

theorem DRep.drew {t : TypeId} {F : Nat → Prop} {w : World} {s : Nat} {B : List (List UInt8)} {P : List Snt} (h : DRep t F w s B P) : DRep t F w.drew s B P := h.upd (Upd.refl Nil w).drew (fun _ _ f => f)

set_option maxRecDepth 100000 in
set_option maxHeartbeats 4000000 in
theorem sameDisks {F G : Nat → Prop} (w : World) {s t : Nat} {B : List (List UInt8)} {P : List Snt} (h : DiskRep F w s B P) (k : XRep G w t B P) (hf : Fine B P) (hP : P.length ≤ 4000000000000) :
    Calls Tryd.prog 85 #[.pointer (some ⟨s, 0, none⟩), .pointer (some ⟨t, 0, none⟩)] w fun e w' => e = .returned (.bool true) ∧ Upd Nil w w' := by
  have HD := Lib.hid h
  have HX := Lib.hid k
  have HF := Lib.hid hf
  have HP := Lib.hid hP
  obtain ⟨R, Q, E, a, c, vs, p, d, us, hFs, hR, hQ, hE, hb, hr, hq, hall, hsent⟩ := k
  have hc0 : w.cell? ⟨t, 0, none⟩ = some (.slice a B.length c) := hb.cell 0
  have hc1 : w.cell? ⟨t, 1, none⟩ = some (.slice p P.length d) := hb.cell 1
  have HQ := Lib.hid hq
  have HSe := Lib.hid hsent
  clear h hf hR hQ hE hb hr hq hall hsent hP
  go_enter Tryd.func85, Tryd.ntmps85
  go_wp2_with fail
  go_region_held3 (fun W => W.cell? ⟨t, 0, none⟩ = some (.slice a B.length c) ∧ W.cell? ⟨t, 1, none⟩ = some (.slice p P.length d)) (first | exact ⟨hcD, hdD⟩ | exact ⟨hcC, hdC⟩ | exact ⟨hcB, hdB⟩ | exact ⟨hcA, hdA⟩ | exact ⟨hc0, hc1⟩)
    (first
    | (go_at_call 39; refine (disk_Sectors _ HD.out.drew).mono ?_; rintro e w' ⟨rfl, rfl⟩)
    | (go_at_call 114; refine (disk_Image _ HD.out.drew (by have := HF.out.le; omega) (fun x hx => by rw [HF.out.size x hx]; decide)).mono ?_; rintro e w1 ⟨R1, E1, a1, c1, v1, rfl, h1, _, _, h4⟩; have HI1 := Lib.hid h1; have HU1 := Lib.hid h4; have hcA := h4.cell hc0 (fun f => f); have hdA := h4.cell hc1 (fun f => f); clear h1 h4)
    | (go_at_call 115; refine (x_Image _ (HX.out.drew.upd HU1.out (fun _ _ f => f)) (by have := HF.out.le; omega) (fun x hx => by rw [HF.out.size x hx]; decide)).mono ?_; rintro e w2 ⟨R2, E2, a2, c2, v2, rfl, h1, _, _, h4⟩; have HI2 := Lib.hid h1; have HU2 := Lib.hid h4; have hcB := h4.cell hcA (fun f => f); have hdB := h4.cell hdA (fun f => f); clear h1 h4)
    | (go_at_call 113; refine (sameImage_yes _ c1 c2 (HI1.out.own.keep HU2.out).row HI2.out.own.row (HI1.out.all.mono (fun v x h => h.keep HU2.out)) HI2.out.all rfl rfl (by have := HF.out.le; omega)).mono ?_; rintro e w' ⟨rfl, rfl⟩)
    | (go_at_call 107; refine (disk_Pending _ ((HD.out.drew.upd HU1.out (fun _ _ f => f)).upd HU2.out (fun _ _ f => f)) HP.out (fun x hx => by rw [(HF.out.sent x hx).2]; decide)).mono ?_; rintro e w3 ⟨R3, E3, p3, d3, u3, rfl, h1, _, _, h4⟩; have HS3 := Lib.hid h1; have HU3 := Lib.hid h4; have hcC := h4.cell hcB (fun f => f); have hdC := h4.cell hdB (fun f => f); clear h1 h4)
    | (go_at_call 116; refine (sameSent _ _ d3 _ d HS3.out.own (((HQ.out.drew.keep HU1.out).keep HU2.out).keep HU3.out) HS3.out.all (HSe.out.mono (fun v x h => (((h.keep (Upd.refl Nil _).drew).keep HU1.out).keep HU2.out).keep HU3.out))).mono ?_; rintro e w4 ⟨rfl, h4⟩; have HU4 := Lib.hid h4; have hcD := h4.cell hcC (fun f => f); have hdD := h4.cell hdC (fun f => f); clear h4))
  all_goals go_wp2
  all_goals go_ret
  all_goals exact ⟨rfl, ((HU1.out.ofDrew.trans HU2.out (fun _ f _ => f)).trans HU3.out (fun _ f _ => f)).trans HU4.out (fun _ f _ => f)⟩
end Go.Proofs.YtbaombnnagidcaaDoor

namespace Go.Proofs.YtbaombnnagidcaaDoor
open Go.RowKit

/-! ### what the calls answer -/
def isSector (B : List (List UInt8)) (i : Int) : Prop := 0 ≤ i ∧ i < B.length
instance (B : List (List UInt8)) (i : Int) : Decidable (isSector B i) := by unfold isSector; infer_instance
def wCode (B : List (List UInt8)) (i : Int) (n : Nat) : Int := if isSector B i ∧ n = 128 then 0 else 1
def wPend (B : List (List UInt8)) (P : List Snt) (i : Int) (xs : List UInt8) : List Snt := if isSector B i ∧ xs.length = 128 then P ++ [(i.toNat, xs)] else P
def rCode (B : List (List UInt8)) (i : Int) : Int := if isSector B i then 0 else 1
def rBytes (B : List (List UInt8)) (P : List Snt) (i : Int) : List UInt8 := if h : isSector B i then readOf B P i.toNat (by unfold isSector at h; omega) else []
def cCode (P : List Snt) (ks : List Int) : Int := match mark (List.replicate P.length false) ks with | none => 20 | some _ => 0
def cSects (B : List (List UInt8)) (P : List Snt) (ks : List Int) : List (List UInt8) := match mark (List.replicate P.length false) ks with | none => B | some st => applyP B (kept st P)
def cPend (P : List Snt) (ks : List Int) : List Snt := match mark (List.replicate P.length false) ks with | none => P | some _ => []

theorem notSector {B : List (List UInt8)} {i : Int} (h : ¬ isSector B i) : NoSector B i := by
  unfold isSector at h
  unfold NoSector
  omega

theorem Fine.write {B : List (List UInt8)} {P : List Snt} (h : Fine B P) (i : Int) (xs : List UInt8) : Fine B (wPend B P i xs) := by
  unfold wPend
  split
  · rename_i hs
    refine ⟨h.pos, h.le, h.size, fun p hp => ?_⟩
    rcases List.mem_append.1 hp with hp | hp
    · exact h.sent p hp
    · rw [List.mem_singleton.1 hp]
      have := hs.1
      unfold isSector at this
      exact ⟨by show i.toNat < _; omega, hs.2⟩
  · exact h
theorem fine_apply {B : List (List UInt8)} {P : List Snt} (h : Fine B P) {l : List Snt} (hl : ∀ p ∈ l, p ∈ P) : Fine (applyP B l) [] :=
  ⟨by rw [length_applyP]; exact h.pos, by rw [length_applyP]; exact h.le, size_applyP h.size (fun p hp => (h.sent p (hl p hp)).2), fun _ hp => by cases hp⟩
theorem Fine.crash {B : List (List UInt8)} {P : List Snt} (h : Fine B P) (ks : List Int) : Fine (cSects B P ks) (cPend P ks) := by
  unfold cSects cPend
  split
  · exact h
  · exact fine_apply h (fun p hp => kept_mem hp)
theorem Fine.flush {B : List (List UInt8)} {P : List Snt} (h : Fine B P) : Fine (applyP B P) [] := fine_apply h (fun _ hp => hp)
theorem length_wPend (B : List (List UInt8)) (P : List Snt) (i : Int) (xs : List UInt8) : (wPend B P i xs).length ≤ P.length + 1 := by
  unfold wPend
  split <;> simp
theorem length_cPend (P : List Snt) (ks : List Int) : (cPend P ks).length ≤ P.length := by
  unfold cPend
  split <;> simp

/-- bytes and a code that are told -/
def ToldAny (w : World) (xs : List UInt8) (z : Int) (e : Ending) (w' : World) : Prop := ∃ a c, e = .returned (.tuple #[.slice a xs.length c, .int .i64 z]) ∧ Own (Fr w w') w' 5 1 a xs.length c (bvs xs) ∧ Upd Nil w w'

theorem DGot.same {t : TypeId} {F : Nat → Prop} {w : World} {s : Nat} {B : List (List UInt8)} {P : List Snt} {v : Value} (h : DRep t F w s B P) : DGot t F w s v B P (.returned v) w :=
  ⟨rfl, F, h, Upd.refl _ _, fun _ h => .inl h⟩

theorem disk_Write_any {F G : Nat → Prop} (w : World) {s : Nat} {B : List (List UInt8)} {P : List Snt} (h : DiskRep F w s B P) (hf : Fine B P) (hP : P.length ≤ 4000000000000) (i : Int) {a : Option Addr} (c : Nat) {xs : List UInt8} (hr : Row G w a (bvs xs)) :
    Calls Tryd.prog 76 #[.pointer (some ⟨s, 0, none⟩), .int .i64 i, .slice a xs.length c] w (DGot 76 F w s (.int .i64 (wCode B i xs.length)) B (wPend B P i xs)) := by
  unfold wCode wPend
  by_cases hs : isSector B i
  · obtain ⟨m, rfl⟩ : ∃ m : Nat, i = m := ⟨i.toNat, by unfold isSector at hs; omega⟩
    have hm : m < B.length := by unfold isSector at hs; omega
    by_cases hx : xs.length = 128
    · rw [if_pos ⟨hs, hx⟩, if_pos ⟨hs, hx⟩]
      exact disk_Write_yes w h hm hP c hr hx
    · rw [if_neg (fun q => hx q.2), if_neg (fun q => hx q.2)]
      exact (disk_Write_len w h hm a xs.length c hx).mono fun e w' ⟨he, hw⟩ => by subst he; subst hw; exact DGot.same h
  · rw [if_neg (fun q => hs q.1), if_neg (fun q => hs q.1)]
    exact (disk_Write_no w h hf.pos (notSector hs) a xs.length c).mono fun e w' ⟨he, hw⟩ => by subst he; subst hw; exact DGot.same h
theorem x_Write_any {F G : Nat → Prop} (w : World) {s : Nat} {B : List (List UInt8)} {P : List Snt} (h : XRep F w s B P) (hP : P.length ≤ 4000000000000) (i : Int) {a : Option Addr} (c : Nat) {xs : List UInt8} (hr : Row G w a (bvs xs)) (hA : a = none → c = 0) :
    Calls Tryd.prog 117 #[.pointer (some ⟨s, 0, none⟩), .int .i64 i, .slice a xs.length c] w (DGot 155 F w s (.int .i64 (wCode B i xs.length)) B (wPend B P i xs)) := by
  unfold wCode wPend
  by_cases hs : isSector B i
  · obtain ⟨m, rfl⟩ : ∃ m : Nat, i = m := ⟨i.toNat, by unfold isSector at hs; omega⟩
    have hm : m < B.length := by unfold isSector at hs; omega
    by_cases hx : xs.length = 128
    · rw [if_pos ⟨hs, hx⟩, if_pos ⟨hs, hx⟩]
      exact x_Write_yes w h hm hP c hr hA hx
    · rw [if_neg (fun q => hx q.2), if_neg (fun q => hx q.2)]
      exact (x_Write_len w h hm a xs.length c hx).mono fun e w' ⟨he, hw⟩ => by subst he; subst hw; exact DGot.same h
  · rw [if_neg (fun q => hs q.1), if_neg (fun q => hs q.1)]
    exact (x_Write_no w h (notSector hs) a xs.length c).mono fun e w' ⟨he, hw⟩ => by subst he; subst hw; exact DGot.same h

theorem disk_Read_any {F : Nat → Prop} (w : World) {s : Nat} {B : List (List UInt8)} {P : List Snt} (h : DiskRep F w s B P) (hf : Fine B P) (hP : P.length ≤ 4000000000000) (i : Int) :
    Calls Tryd.prog 71 #[.pointer (some ⟨s, 0, none⟩), .int .i64 i] w (ToldAny w (rBytes B P i) (rCode B i)) := by
  unfold rBytes rCode
  by_cases hs : isSector B i
  · obtain ⟨m, rfl⟩ : ∃ m : Nat, i = m := ⟨i.toNat, by unfold isSector at hs; omega⟩
    rw [if_pos hs, dif_pos hs]
    exact (disk_Read_yes w h hf hP (by unfold isSector at hs; omega))
  · rw [if_neg hs, dif_neg hs]
    exact (disk_Read_no w h hf.pos (notSector hs)).mono fun e w' ⟨he, hw⟩ => ⟨none, 0, he, Own.none_ _ _ _ _, hw⟩
theorem x_Read_any {F : Nat → Prop} (w : World) {s : Nat} {B : List (List UInt8)} {P : List Snt} (h : XRep F w s B P) (hf : Fine B P) (hP : P.length ≤ 4000000000000) (i : Int) :
    Calls Tryd.prog 109 #[.pointer (some ⟨s, 0, none⟩), .int .i64 i] w (ToldAny w (rBytes B P i) (rCode B i)) := by
  unfold rBytes rCode
  by_cases hs : isSector B i
  · obtain ⟨m, rfl⟩ : ∃ m : Nat, i = m := ⟨i.toNat, by unfold isSector at hs; omega⟩
    rw [if_pos hs, dif_pos hs]
    exact (x_Read_yes w h hf hP (by unfold isSector at hs; omega))
  · rw [if_neg hs, dif_neg hs]
    exact (x_Read_no w h (notSector hs)).mono fun e w' ⟨he, hw⟩ => by subst hw; exact ⟨none, 0, he, Own.none_ _ _ _ _, Upd.refl _ _⟩


/-! ### both disks side by side -/
structure Pair (w : World) (s1 s2 : Nat) (F1 F2 : Nat → Prop) (B1 : List (List UInt8)) (P1 : List Snt) (B2 : List (List UInt8)) (P2 : List Snt) : Prop where
  prog : DiskRep F1 w s1 B1 P1
  ref : XRep F2 w s2 B2 P2
  in1 : ∀ k, F1 k → k < w.heap.size
  in2 : ∀ k, F2 k → k < w.heap.size
  apart : ∀ k, F1 k → ¬ F2 k
namespace Pair
variable {w w' : World} {s1 s2 : Nat} {F1 F2 : Nat → Prop} {B1 B2 : List (List UInt8)} {P1 P2 : List Snt}
theorem far {G : Nat → Prop} (h : Pair w s1 s2 F1 F2 B1 P1 B2 P2) (u : Upd G w w') (h1 : ∀ k, F1 k → ¬ G k) (h2 : ∀ k, F2 k → ¬ G k) : Pair w' s1 s2 F1 F2 B1 P1 B2 P2 :=
  ⟨h.prog.upd u h1, h.ref.upd u h2, fun k hk => Nat.lt_of_lt_of_le (h.in1 k hk) u.size, fun k hk => Nat.lt_of_lt_of_le (h.in2 k hk) u.size, h.apart⟩
theorem keep (h : Pair w s1 s2 F1 F2 B1 P1 B2 P2) (u : Upd Nil w w') : Pair w' s1 s2 F1 F2 B1 P1 B2 P2 := h.far u (fun _ _ f => f) (fun _ _ f => f)
theorem drew (h : Pair w s1 s2 F1 F2 B1 P1 B2 P2) : Pair w.drew s1 s2 F1 F2 B1 P1 B2 P2 := h.keep (Upd.refl Nil w).drew
theorem alloc (h : Pair w s1 s2 F1 F2 B1 P1 B2 P2) (o : Obj) : Pair (w.alloc o) s1 s2 F1 F2 B1 P1 B2 P2 := h.keep ((Upd.refl Nil w).alloc o)
theorem stepProg {F1' : Nat → Prop} {B' : List (List UInt8)} {P' : List Snt} (h : Pair w s1 s2 F1 F2 B1 P1 B2 P2) (hb : DiskRep F1' w' s1 B' P') (u : Upd F1 w w') (hF : ∀ k, F1' k → F1 k ∨ Fr w w' k) : Pair w' s1 s2 F1' F2 B' P' B2 P2 := by
  have hz := u.size
  refine ⟨hb, h.ref.upd u (fun k h2 h1 => h.apart k h1 h2), fun k hk => ?_, fun k hk => Nat.lt_of_lt_of_le (h.in2 k hk) hz, fun k hk h2 => ?_⟩
  · rcases hF k hk with h1 | h1
    · exact Nat.lt_of_lt_of_le (h.in1 k h1) hz
    · exact h1.2
  · rcases hF k hk with h1 | h1
    · exact h.apart k h1 h2
    · have := h.in2 k h2
      have := h1.1
      omega
theorem stepRef {F2' : Nat → Prop} {B' : List (List UInt8)} {P' : List Snt} (h : Pair w s1 s2 F1 F2 B1 P1 B2 P2) (hb : XRep F2' w' s2 B' P') (u : Upd F2 w w') (hF : ∀ k, F2' k → F2 k ∨ Fr w w' k) : Pair w' s1 s2 F1 F2' B1 P1 B' P' := by
  have hz := u.size
  refine ⟨h.prog.upd u h.apart, hb, fun k hk => Nat.lt_of_lt_of_le (h.in1 k hk) hz, fun k hk => ?_, fun k h1 hk => ?_⟩
  · rcases hF k hk with h2 | h2
    · exact Nat.lt_of_lt_of_le (h.in2 k h2) hz
    · exact h2.2
  · rcases hF k hk with h2 | h2
    · exact h.apart k h1 h2
    · have := h.in1 k h1
      have := h2.1
      omega
end Pair
end Go.Proofs.YtbaombnnagidcaaDoor
