/- The document's disk: copied, New, Write, Read, Image. -/
import Derived.Test.YtbaombnnagidcaaDoorDiskNew
import Derived.Test.YtbaombnnagidcaaDoorDiskRead
import Derived.IntWalk
namespace Go.Proofs.YtbaombnnagidcaaDoor
open Go.RowKit

abbrev XRep := DRep 155

theorem copied02 {F : Nat → Prop} (w : World) {a : Option Addr} (c : Nat) {xs : List UInt8} (hr : Row F w a (bvs xs)) (hA : a = none → c = 0) (hx : xs.length ≤ 140737488355328) :
    Calls Tryd.prog 108 #[.slice a xs.length c] w (RetOwn w 5 1 xs.length (bvs xs)) := by
  obtain ⟨i0, hi, hz0, hz1, hz2⟩ := info_parts infoU8
  have Q := Lib.hid hr
  have QA := Lib.hid hA
  clear hr hA
  go_enter Tryd.func108, Tryd.ntmps108
  go_wp2_with (at_builtin; refine wpList_append_Own rfl _ _ _ rfl Tryd.underlying22 hi hz0 hz1 hz2 rfl (by decide) rfl (own_empty w) rfl (Q.out.alloc _) (by simp) (bvs_one xs) QA.out (by simp only [maxLen]; omega) (by omega) ?_)
  intro a' c' w' hown hup hne
  go_wp2
  go_ret
  refine ⟨a', c', rfl, (by simpa using hown : Own _ w' _ 1 a' xs.length c' (bvs xs)).mono ?_, ?_⟩
  · rintro k (⟨h1, h2⟩ | ⟨h1, h2⟩)
    · exact ⟨h1, Nat.lt_of_lt_of_le h2 hup.size⟩
    · exact ⟨by simp at h1; omega, h2⟩
  · exact ((Upd.refl Nil w).alloc _).trans hup (fun k h1 h2 => by have := h1.1; omega)

theorem x_Write_no {F : Nat → Prop} (w : World) {s : Nat} {B : List (List UInt8)} {P : List Snt} (h : XRep F w s B P) {i : Int} (hi : NoSector B i) (a : Option Addr) (n c : Nat) :
    Calls Tryd.prog 117 #[.pointer (some ⟨s, 0, none⟩), .int .i64 i, .slice a n c] w fun e w' => e = .returned (.int .i64 1) ∧ w = w' := by
  obtain ⟨R, Q, E, al, cl, vs, p, d, us, hFs, hR, hQ, hE, hb, hown, hq, hall, hsent⟩ := h
  have hc0 : w.cell? ⟨s, 0, none⟩ = some (.slice al B.length cl) := hb.cell 0
  clear hb hown hq hall hsent hR hQ hE
  by_cases h0 : i < 0
  · clear hi
    go_enter Tryd.func117, Tryd.ntmps117
    go_wp2
    go_ret
    exact ⟨rfl, rfl⟩
  · obtain ⟨m, rfl⟩ : ∃ m : Nat, i = m := ⟨i.toNat, by omega⟩
    have hi' : B.length ≤ m := by unfold NoSector at hi; omega
    clear hi h0
    go_enter Tryd.func117, Tryd.ntmps117
    go_wp2
    go_ret
    exact ⟨rfl, rfl⟩

theorem x_Write_len {F : Nat → Prop} (w : World) {s : Nat} {B : List (List UInt8)} {P : List Snt} (h : XRep F w s B P) {i : Nat} (hi : i < B.length) (a : Option Addr) (n c : Nat) (hn : n ≠ 128) :
    Calls Tryd.prog 117 #[.pointer (some ⟨s, 0, none⟩), .int .i64 i, .slice a n c] w fun e w' => e = .returned (.int .i64 1) ∧ w = w' := by
  obtain ⟨R, Q, E, al, cl, vs, p, d, us, hFs, hR, hQ, hE, hb, hown, hq, hall, hsent⟩ := h
  have hc0 : w.cell? ⟨s, 0, none⟩ = some (.slice al B.length cl) := hb.cell 0
  clear hb hown hq hall hsent hR hQ hE
  have hne : ((n : Int) != 128) = true := by rw [bne_iff_ne]; omega
  have hne' : ((n : Int) == 128) = false := by rw [beq_eq_false_iff_ne]; omega
  go_enter Tryd.func117, Tryd.ntmps117
  go_wp2
  go_ret
  exact ⟨rfl, rfl⟩

set_option maxRecDepth 100000 in
set_option maxHeartbeats 1000000 in
theorem x_Write_yes {F G : Nat → Prop} (w : World) {s : Nat} {B : List (List UInt8)} {P : List Snt} (h : XRep F w s B P) {i : Nat} (hi : i < B.length) (hP : P.length ≤ 4000000000000) {a : Option Addr} (c : Nat) {xs : List UInt8} (hr : Row G w a (bvs xs)) (hA : a = none → c = 0) (hx : xs.length = 128) :
    Calls Tryd.prog 117 #[.pointer (some ⟨s, 0, none⟩), .int .i64 i, .slice a xs.length c] w (DGot 155 F w s (.int .i64 0) B (P ++ [(i, xs)])) := by
  have HD := Lib.hid h
  obtain ⟨R, Q, E, al, cl, vs, p, d, us, hFs, hR, hQ, hE, hb, hrow, hq, hall, hsent⟩ := h
  have hc1 : w.cell? ⟨s, 1, none⟩ = some (.slice p P.length d) := hb.cell 1
  have hc0 : w.cell? ⟨s, 0, none⟩ = some (.slice al B.length cl) := hb.cell 0
  obtain ⟨i0, hi1, hz0, hz1, hz2⟩ := info_parts infoSent
  have hi0 := Lib.hid (And.intro hi1 (And.intro hz0 (And.intro hz1 hz2)))
  clear hi1 hz0 hz1 hz2
  have HC1 := Lib.hid hc1
  have HB := Lib.hid hb
  have HQ := Lib.hid hq
  have HR := Lib.hid hr
  have HAn := Lib.hid hA
  have HRow := Lib.hid hrow
  have HA := Lib.hid hall
  have HSe := Lib.hid hsent
  have HRs := Lib.hid hR
  have HQs := Lib.hid hQ
  have HEs := Lib.hid hE
  have HX := Lib.hid hx
  clear hb hq hr hrow hall hsent hR hQ hE hA
  rw [hx]
  clear hx
  go_enter Tryd.func117, Tryd.ntmps117
  go_wp2
  go_region_law (first
    | (go_simp; go_at_call 108; rw [← HX.out]; refine (copied02 _ c HR.out.drew HAn.out (by rw [HX.out]; decide)).mono ?_; rintro e w1 ⟨a1, c1, rfl, hown1, hup1⟩
       have HO1 := Lib.hid hown1; have HU1 := Lib.hid hup1; clear hown1 hup1
       have hd0 := HU1.out.cell (a := ⟨s, 1, none⟩) HC1.out (fun f => f); have hlt1 : s < w1.heap.size := World.block_lt_of_cell? w1 _ hd0)
    | (refine step_append_Own rfl (.tmp 27) (.tmp 32) 74 rfl Tryd.underlying74 hi0.out.1 hi0.out.2.1 hi0.out.2.2.1 hi0.out.2.2.2 rfl (by decide) rfl ((HQ.out.drew.keep HU1.out).alloc _) rfl (Own.lit (t := 145) (sz := 2) w1 #[.int .i64 i, .slice a1 xs.length c1] 1 (by decide) rfl).row (by simp) (by simp [Value.oneCell']) (by intro h; cases h) (by simp only [maxLen]; omega) (by omega) ?_
       intro a2 c2 w2 hown2 hup2 hne2
       have hb2 := ((HB.out.drew.upd HU1.out (fun f => f)).alloc (.cells #[.int .i64 i, .slice a1 xs.length c1] 145)).upd hup2 (fun f => (HQs.out _ f).2.1 rfl)
       have HO2 := Lib.hid hown2; have HU2 := Lib.hid hup2; clear hown2 hup2 hne2
       have he0 := hb2.cell 1; have hf0 := hb2.frozen 1
       clear hb2))
  all_goals go_wp2
  all_goals go_ret
  all_goals
    obtain ⟨F', hrep, hup, hF⟩ := write_end (t := 155) hFs HRs.out HQs.out HEs.out HB.out HRow.out HA.out HSe.out (show Own (Fr w w1) w1 _ 1 _ _ _ _ from HO1.out) HU1.out.ofDrew HO2.out HU2.out
    exact ⟨rfl, F', hrep, hup, hF⟩

theorem x_Read_no {F : Nat → Prop} (w : World) {s : Nat} {B : List (List UInt8)} {P : List Snt} (h : XRep F w s B P) {i : Int} (hi : NoSector B i) :
    Calls Tryd.prog 109 #[.pointer (some ⟨s, 0, none⟩), .int .i64 i] w fun e w' => e = .returned (.tuple #[.slice none 0 0, .int .i64 1]) ∧ w = w' := by
  obtain ⟨R, Q, E, al, cl, vs, p, d, us, hFs, hR, hQ, hE, hb, hown, hq, hall, hsent⟩ := h
  have hc0 : w.cell? ⟨s, 0, none⟩ = some (.slice al B.length cl) := hb.cell 0
  clear hb hown hq hall hsent hR hQ hE
  by_cases h0 : i < 0
  · clear hi
    go_enter Tryd.func109, Tryd.ntmps109
    go_wp2
    go_ret2
    exact ⟨rfl, rfl⟩
  · obtain ⟨m, rfl⟩ : ∃ m : Nat, i = m := ⟨i.toNat, by omega⟩
    have hi' : B.length ≤ m := by unfold NoSector at hi; omega
    clear hi h0
    go_enter Tryd.func109, Tryd.ntmps109
    go_wp2
    go_ret2
    exact ⟨rfl, rfl⟩

set_option maxRecDepth 100000 in
set_option maxHeartbeats 1000000 in
theorem x_Read_yes {F : Nat → Prop} (w : World) {s : Nat} {B : List (List UInt8)} {P : List Snt} (h : XRep F w s B P) (hfine : Fine B P) (hP : P.length ≤ 4000000000000) {i : Nat} (hi : i < B.length) :
    Calls Tryd.prog 109 #[.pointer (some ⟨s, 0, none⟩), .int .i64 i] w (ToldBytes w (readOf B P i hi)) := by
  obtain ⟨R, Q, E, al, cl, vs, p, d, us, hFs, hR, hQ, hE, hb, hown, hq, hall, hsent⟩ := h
  have hc0 : w.cell? ⟨s, 0, none⟩ = some (.slice al B.length cl) := hb.cell 0
  have hc1 : w.cell? ⟨s, 1, none⟩ = some (.slice p P.length d) := hb.cell 1
  have HQ := Lib.hid hq
  have HSe := Lib.hid hsent
  have HFi := Lib.hid hfine
  have HHi := Lib.hid hi
  have HMiss := Lib.hid (fun h => readOf_miss (P := P) hi h)
  have HHit := Lib.hid (fun (j0 : Nat) (h0 : j0 < P.length) h hl => readOf_hit (B := B) (P := P) hi h0 h hl)
  obtain ⟨vb, hvb, hvel⟩ := hall.get hi
  obtain ⟨bb, ob, hal, _, hcb⟩ := rowAt hown.row hvb
  obtain ⟨ab, cb, rfl, hrb, hnb, _⟩ := hvel
  have hxb := hfine.size _ (List.getElem_mem hi)
  have HRb := Lib.hid hrb
  have HNb := Lib.hid hnb
  have HXb := Lib.hid hxb
  obtain ⟨xb, hxbe⟩ : ∃ xb, B[i]'hi = xb := ⟨_, rfl⟩
  rw [hxbe] at HRb HXb HMiss hcb
  obtain ⟨rx, hrx⟩ : ∃ rx, readOf B P i hi = rx := ⟨_, rfl⟩
  rw [hrx] at HMiss HHit ⊢
  subst hal
  have hwr : IntKind.i64.wrap ((P.length : Int) - 1) = (P.length : Int) - 1 := IntWalk.i64_in _ (by omega)
  clear hb hown hq hall hsent hR hQ hE hfine hvb hrb hnb hxb hxbe hrx
  go_enter Tryd.func109, Tryd.ntmps109
  go_wp2
  go_loopg [6] P.length (fun k v wr => w = wr ∧ k ≤ P.length ∧ (∃ z : Int, v = .int .i64 z ∧ z = (k : Int) - 1) ∧ ∀ q (hq : q < P.length), k ≤ q → (P[q]).1 ≠ i)
  case atStart => exact ⟨rfl, Nat.le_refl _, ⟨_, rfl, rfl⟩, fun q hq h => by omega⟩
  case round =>
    obtain ⟨rfl, hk, ⟨z, rfl, hz⟩, hmiss⟩ := hrel
    have HM := Lib.hid hmiss
    clear hmiss hwr
    rcases Nat.eq_zero_or_pos gk with h0 | h0
    · have hz0 : z < 0 := by omega
      have HZ := Lib.hid hz
      have H0 := Lib.hid h0
      clear hz h0
      go_wp2_with (go_at_call 108; refine (copied02 _ cb HRb.out HNb.out (by rw [HXb.out]; decide)).mono ?_; rintro e w1 ⟨a1, c1, rfl, hown1, hup1⟩; have HO1 := Lib.hid hown1; have HU1 := Lib.hid hup1; clear hown1 hup1)
      go_ret2
      have hrx := HMiss.out (fun q hq => HM.out q hq (by have := H0.out; omega))
      subst hrx
      exact ⟨a1, c1, rfl, HO1.out, HU1.out⟩
    · obtain ⟨m, hm⟩ : ∃ m, gk = m + 1 := ⟨gk - 1, by omega⟩
      obtain rfl : z = (m : Int) := by omega
      have hlt : m < P.length := by omega
      obtain ⟨b, v, rfl, _, hcA, hcB, hel⟩ := sentAt HQ.out HSe.out hlt
      obtain ⟨ax, cx, rfl, hrx, hnx, _⟩ := hel
      have hxl := (HFi.out.sent _ (List.getElem_mem hlt)).2
      have hit := HHit.out m hlt
      have HGk := Lib.hid hm
      obtain ⟨⟨pi, px⟩, hpe⟩ : ∃ q, P[m] = q := ⟨_, rfl⟩
      have HPe := Lib.hid hpe
      rw [hpe] at hcA hcB hrx hxl hit
      dsimp only at hcA hcB hrx hxl hit
      have HRx := Lib.hid hrx
      have HNx := Lib.hid hnx
      have HXl := Lib.hid hxl
      have HIt := Lib.hid hit
      clear hz h0 hm hpe hrx hnx hxl hit
      by_cases hpi : pi = i
      · have HIt2 := Lib.hid (HIt.out hpi)
        clear HIt
        subst hpi
        go_wp2_with (go_at_call 108; refine (copied02 _ cx HRx.out HNx.out (by rw [HXl.out]; decide)).mono ?_; rintro e w1 ⟨a1, c1, rfl, hown1, hup1⟩; have HO1 := Lib.hid hown1; have HU1 := Lib.hid hup1; clear hown1 hup1)
        go_ret2
        have hrx := HIt2.out (fun q hq h => HM.out q hq (by have := HGk.out; omega))
        subst hrx
        exact ⟨a1, c1, rfl, HO1.out, HU1.out⟩
      · have hne : ((pi : Int) == (i : Int)) = false := by rw [beq_eq_false_iff_ne]; omega
        have hne' : ((i : Int) == (pi : Int)) = false := by rw [beq_eq_false_iff_ne]; omega
        have HNe := Lib.hid hpi
        clear hpi
        go_wp2
        go_roundg (gk - 1)
        case measure => have := HGk.out; omega
        case rel =>
          have := HGk.out
          refine ⟨rfl, by omega, ⟨_, rfl, by omega⟩, fun q hq h => ?_⟩
          by_cases e : q = m
          · subst e
            rw [HPe.out]
            exact HNe.out
          · exact HM.out q hq (by omega)

set_option maxHeartbeats 1000000 in
theorem x_Image {F : Nat → Prop} (w : World) {s : Nat} {B : List (List UInt8)} {P : List Snt} (h : XRep F w s B P) (hl : B.length ≤ 1000000) (hx : ∀ x ∈ B, x.length ≤ 140737488355328) :
    Calls Tryd.prog 115 #[.pointer (some ⟨s, 0, none⟩)] w (GotRows w B) := by
  obtain ⟨R, Q, E, al, cl, vs, p, d, us, hFs, hR, hQ, hE, hb, hown, hq, hall, hsent⟩ := h
  have hc0 : w.cell? ⟨s, 0, none⟩ = some (.slice al B.length cl) := hb.cell 0
  obtain ⟨i0, hi, hz0, hz1, hz2⟩ := info_parts infoBytes
  have hi0 := Lib.hid (And.intro hi (And.intro hz0 (And.intro hz1 hz2)))
  clear hi hz0 hz1 hz2
  have HO := Lib.hid hown
  have HA := Lib.hid hall
  have HX := Lib.hid hx
  clear hb hown hq hall hsent hR hQ hE hx
  go_enter Tryd.func115, Tryd.ntmps115
  go_wp2
  go_loopg [3, 11] B.length (fun k v i wr => ∃ j : Nat, j + k = B.length ∧ i = .int .i64 j ∧ ∃ (R' E' : Nat → Prop) (a : Option Addr) (c : Nat) (us : List Value), v = .slice a j c ∧ Rows R' E' wr a j c us (B.take j) ∧ (∀ q, R' q → Fr w wr q) ∧ (∀ q, E' q → Fr w wr q) ∧ Upd Nil w wr)
  case atStart => exact ⟨0, by omega, rfl, Nil, Nil, none, 0, [], rfl, ⟨Own.none_ _ _ _ _, trivial, rfl, fun _ f => f.elim, fun _ f => f.elim, fun _ f => f.elim⟩, fun _ f => f.elim, fun _ f => f.elim, Upd.refl _ _⟩
  case round =>
    obtain ⟨j, hjk, rfl, R', E', a, c, us, rfl, hrows, hR', hE', hup⟩ := hrel
    have hjn : j ≤ B.length := by omega
    have HJ := Lib.hid hjk
    have HRw := Lib.hid hrows
    have HR' := Lib.hid hR'
    have HE' := Lib.hid hE'
    have HU := Lib.hid hup
    clear hjk hrows hR' hE' hup
    by_cases hlt : j < B.length
    · obtain ⟨v, hv, ax, cx, rfl, rx, nx, _⟩ := HA.out.get hlt
      obtain ⟨b, o, rfl, _, hcell0⟩ := rowAt HO.out.row hv
      have hcell := HU.out.cell hcell0 (fun f => f)
      have HRx := Lib.hid (rx.keep HU.out)
      have HNx := Lib.hid nx
      clear hv hcell0 rx nx
      go_wp2_with (first
        | (go_at_call 108; refine (copied02 _ cx HRx.out HNx.out (HX.out _ (List.getElem_mem hlt))).mono ?_; rintro e w1 ⟨a1, c1, rfl, hown1, hup1⟩; have HO1 := Lib.hid hown1; have HU1 := Lib.hid hup1; clear hown1 hup1)
        | (at_builtin; refine wpList_append_Own rfl _ _ _ rfl Tryd.underlying59 hi0.out.1 hi0.out.2.1 hi0.out.2.2.1 hi0.out.2.2.2 rfl (by decide) rfl ((HRw.out.own.keep HU1.out).alloc _) rfl (one_row w1 _ _) (by simp) (by simp [Value.oneCell']) (by intro h; cases h) (by simp only [maxLen]; omega) (by omega) ?_
           intro a2 c2 w2 hown2 hup2 hne2; have HO2 := Lib.hid hown2; have HU2 := Lib.hid hup2; clear hown2 hup2 hne2))
      go_roundg (gk - 1)
      case measure => have := HJ.out; omega
      case rel =>
        obtain ⟨f0, f1, f2⟩ := fr_grow HU.out HU1.out HU2.out
        have hrows' := HRw.out.snoc HO1.out HU1.out HO2.out HU2.out
        rw [← List.take_succ_eq_append_getElem hlt] at hrows'
        refine ⟨j + 1, by have := HJ.out; omega, by go_num, _, _, a2, c2, _, rfl, hrows', ?_, ?_, ?_⟩
        · rintro q (h | h)
          · exact f0 q (HR'.out q h)
          · exact f2 q h
        · rintro q (h | h)
          · exact f0 q (HE'.out q h)
          · exact f1 q h
        · exact ((HU.out.trans HU1.out (fun _ f _ => f)).alloc _).trans HU2.out (fun k hk hlt => by have := (HR'.out k hk).1; omega)
    · obtain rfl : j = B.length := by omega
      go_wp2
      go_ret
      have hr := HRw.out
      rw [List.take_length] at hr
      exact ⟨R', E', a, c, us, rfl, hr, HR'.out, HE'.out, HU.out⟩
end Go.Proofs.YtbaombnnagidcaaDoor
