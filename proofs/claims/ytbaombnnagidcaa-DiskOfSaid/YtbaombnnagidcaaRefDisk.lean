/- The document's disk: copied, New, Write, Read, Image. -/
import Derived.Test.YtbaombnnagidcaaDiskNew
import Derived.Test.YtbaombnnagidcaaDiskRead
import Derived.IntWalk
namespace Go.Proofs.Ytbaombnnagidcaa
open Go.RowKit

abbrev XRep := DRep 113

theorem copied02 {F : Nat → Prop} (w : World) {a : Option Addr} (c : Nat) {xs : List UInt8} (hr : Row F w a (bvs xs)) (hA : a = none → c = 0) (hx : xs.length ≤ 140737488355328) :
    Calls Try.prog 73 #[.slice a xs.length c] w (RetOwn w 5 1 xs.length (bvs xs)) := by
  obtain ⟨i0, hi, hz0, hz1, hz2⟩ := info_parts infoU8
  have Q := Lib.hid hr
  have QA := Lib.hid hA
  clear hr hA
  go_enter Try.func73, Try.ntmps73
  go_wp2_with (at_builtin; refine wpList_append_Own rfl _ _ _ rfl Try.underlying25 hi hz0 hz1 hz2 rfl (by decide) rfl (own_empty w) rfl (Q.out.alloc _) (by simp) (bvs_one xs) QA.out (by simp only [maxLen]; omega) (by omega) ?_)
  intro a' c' w' hown hup hne
  go_wp2
  go_ret
  refine ⟨a', c', rfl, (by simpa using hown : Own _ w' _ 1 a' xs.length c' (bvs xs)).mono ?_, ?_⟩
  · rintro k (⟨h1, h2⟩ | ⟨h1, h2⟩)
    · exact ⟨h1, Nat.lt_of_lt_of_le h2 hup.size⟩
    · exact ⟨by simp at h1; omega, h2⟩
  · exact ((Upd.refl Nil w).alloc _).trans hup (fun k h1 h2 => by have := h1.1; omega)

theorem x_New_no (w : World) {n : Int} (hn : n < 1 ∨ 4096 < n) :
    Calls Try.prog 61 #[.int .i64 n] w fun e w' => e = .returned (.tuple #[.pointer none, .int .i64 1]) ∧ w = w' := by
  by_cases h1 : n < 1
  · clear hn
    go_enter Try.func61, Try.ntmps61
    go_wp2
    go_ret2
    exact ⟨rfl, rfl⟩
  · have h2 : 4096 < n := by omega
    clear hn
    go_enter Try.func61, Try.ntmps61
    go_wp2
    go_ret2
    exact ⟨rfl, rfl⟩

set_option maxRecDepth 100000 in
set_option maxHeartbeats 1000000 in
theorem x_New_yes (w : World) {n : Nat} (h1 : 1 ≤ n) (h2 : n ≤ 4096) :
    Calls Try.prog 61 #[.int .i64 n] w (GotDisk 113 w (List.replicate n noughts)) := by
  obtain ⟨i0, hi, hz0, hz1, hz2⟩ := info_parts infoBytes
  have hi0 := Lib.hid (And.intro hi (And.intro hz0 (And.intro hz1 hz2)))
  clear hi hz0 hz1 hz2
  have hmk := makeBytes (n := 128) (z := 128) rfl (by decide)
  go_enter Try.func61, Try.ntmps61
  go_wp2
  go_loopg [14] n (fun k i wr => ∃ j : Nat, j + k = n ∧ i = .int .i64 j ∧ ∃ R E F : Nat → Prop, DParts 113 F R Nil E wr w.heap.size (List.replicate j noughts) [] ∧ (∀ k, F k → Fr w wr k) ∧ Upd Nil w wr)
  case atStart =>
    refine ⟨0, by omega, rfl, Nil, Nil, _, DParts.new w (fun k hk => hk.elim), ?_, (Upd.refl Nil w).alloc _⟩
    rintro k (hk | rfl)
    · exact hk.elim
    · exact ⟨Nat.le_refl _, by simp⟩
  case round =>
    obtain ⟨j, hjk, rfl, R, E, F, hparts, hF, hup⟩ := hrel
    have hjn : j ≤ n := by omega
    have HJ := Lib.hid hjk
    have HP := Lib.hid hparts
    have HF := Lib.hid hF
    have HU := Lib.hid hup
    clear hjk hF hup
    by_cases hlt : j < n
    · obtain ⟨W0, hW0⟩ : ∃ W0, wr.alloc (.cells (Array.replicate 128 (Value.int .u8 0)) 5) = W0 := ⟨_, rfl⟩
      have hz0 : W0.heap.size = wr.heap.size + 1 := by rw [← hW0]; simp
      have hU0 : Upd Nil wr W0 := by rw [← hW0]; exact (Upd.refl Nil wr).alloc _
      have hown0 : Own (One wr.heap.size) W0 5 1 (some ⟨wr.heap.size, 0, none⟩) 128 128 (bvs noughts) := by rw [← hW0]; exact own_zeros wr (by decide)
      have hp0 := hparts.keep hU0
      have hp1 := hp0.more (G := One wr.heap.size) (fun k hk => by
        obtain ⟨a, c, vs, p, d, us, h1, h3, h4, h5, h6, h7⟩ := hparts
        have hk' : k = wr.heap.size := hk
        have := h6.lt
        exact ⟨by omega, fun r => by have := (h3 k r).2.2; omega, fun q => q, by omega⟩)
      obtain ⟨a, c, vs, p, d, us, hFs, hR, hQ, hE, hb, hown, hq, hvs, hsent⟩ := id hp1
      rw [List.length_replicate] at hb hown
      have hc0 : W0.cell? ⟨w.heap.size, 0, none⟩ = some (.slice a j c) := hb.cell 0
      have hc00 : wr.cell? ⟨w.heap.size, 0, none⟩ = some (.slice a j c) := by
        obtain ⟨a', c', vs', p', d', us', _, _, _, _, hb', _⟩ := hparts
        rw [List.length_replicate] at hb'
        have e1 : wr.cell? ⟨w.heap.size, 0, none⟩ = some (.slice a' j c') := hb'.cell 0
        rw [hU0.cell e1 (fun f => f)] at hc0
        rw [e1]
        exact hc0
      have hlt0 : w.heap.size < wr.heap.size := by
        obtain ⟨a', c', vs', p', d', us', _, _, _, _, hb', _⟩ := hparts
        exact hb'.lt
      have HB := Lib.hid hb
      have HO := Lib.hid hown
      have HV := Lib.hid hvs
      have HR := Lib.hid hR
      have HP1 := Lib.hid hp1
      have HW0 := Lib.hid hW0
      have HZ0 := Lib.hid hz0
      have HU0 := Lib.hid hU0
      have HO0 := Lib.hid hown0
      have HC0 := Lib.hid hc0
      clear hR hQ hE hb hown hq hvs hsent hFs hp0 hp1 hW0 hz0 hU0 hown0 hc0 hparts
      obtain rfl := HW0.out
      have hlit := one_row (wr.alloc (.cells (Array.replicate 128 (Value.int .u8 0)) 5)) (.slice (some ⟨wr.heap.size, 0, none⟩) 128 128) 25
      rw [World.size_alloc] at hlit
      have HLit := Lib.hid hlit
      clear hlit
      go_wp2
      go_region_law (refine step_append_Own rfl (.tmp 20) (.tmp 22) 22 rfl Try.underlying22 hi0.out.1 hi0.out.2.1 hi0.out.2.2.1 hi0.out.2.2.2 rfl (by decide) rfl ((HO.out.alloc _).drew) rfl (HLit.out.drew) (by simp) (by simp [Value.oneCell']) (by intro h; cases h) (by simp only [maxLen]; omega) (by omega) ?_
                     intro a2 c2 w2 hown2 hup2 hne2
                     have hb2 := (HB.out.alloc (.cells #[.slice (some ⟨wr.heap.size, 0, none⟩) 128 128] 25)).drew.upd hup2 (fun f => (HR.out _ f).2.1 rfl)
                     have HO2 := Lib.hid hown2; have HU2 := Lib.hid hup2; clear hown2 hup2 hne2
                     have he0 := hb2.cell 0; have hf0 := hb2.frozen 0
                     clear hb2)
      all_goals go_wp2
      all_goals go_roundg (gk - 1)
      all_goals first
        | (have := HJ.out; omega)
        | (have hel : Elem (fun k => E k ∨ One wr.heap.size k) (wr.alloc (.cells (Array.replicate 128 (Value.int .u8 0)) 5)) (.slice (some ⟨wr.heap.size, 0, none⟩) 128 128) noughts := by
             have := HO0.out.elem
             rw [length_noughts] at this
             exact this.mono (fun k h => .inr h)
           obtain ⟨hp, hu⟩ := sect_end (o := .cells #[.slice (some ⟨wr.heap.size, 0, none⟩) 128 128] 25) HP1.out (by rw [List.length_replicate]; exact HC0.out) HV.out hel (by rw [List.length_replicate]; exact HO2.out) HU2.out.ofDrew
           rw [List.length_replicate, ← List.replicate_succ'] at hp
           rw [List.length_replicate] at hu
           have hz0 := HU.out.size
           have hz2 := HU2.out.size
           simp only [World.drew, World.size_alloc] at hz2
           refine ⟨j + 1, by have := HJ.out; omega, by go_num, _, _, _, hp, ?_, (HU.out.trans HU0.out (fun _ f _ => f)).trans hu (fun k hk hlt => ?_)⟩
           · rintro k ((h | h) | ⟨e1, e2⟩)
             · have := HF.out k h
               exact ⟨this.1, by have := this.2; simp; omega⟩
             · have h' : k = wr.heap.size := h
               exact ⟨by omega, by simp; omega⟩
             · have e1' := e1
               simp only [World.size_alloc] at e1'
               exact ⟨by omega, by simpa using e2⟩
           · rcases hk with h | rfl
             · rcases (HR.out k h).1 with h | h
               · have := (HF.out k h).1
                 omega
               · have h' : k = wr.heap.size := h
                 omega
             · omega)
    · obtain rfl : j = n := by omega
      go_wp2
      go_ret2
      refine ⟨_, F, rfl, HP.out.rep, HF.out, HU.out⟩
theorem x_Write_no {F : Nat → Prop} (w : World) {s : Nat} {B : List (List UInt8)} {P : List Snt} (h : XRep F w s B P) {i : Int} (hi : NoSector B i) (a : Option Addr) (n c : Nat) :
    Calls Try.prog 63 #[.pointer (some ⟨s, 0, none⟩), .int .i64 i, .slice a n c] w fun e w' => e = .returned (.int .i64 1) ∧ w = w' := by
  obtain ⟨R, Q, E, al, cl, vs, p, d, us, hFs, hR, hQ, hE, hb, hown, hq, hall, hsent⟩ := h
  have hc0 : w.cell? ⟨s, 0, none⟩ = some (.slice al B.length cl) := hb.cell 0
  clear hb hown hq hall hsent hR hQ hE
  by_cases h0 : i < 0
  · clear hi
    go_enter Try.func63, Try.ntmps63
    go_wp2
    go_ret
    exact ⟨rfl, rfl⟩
  · obtain ⟨m, rfl⟩ : ∃ m : Nat, i = m := ⟨i.toNat, by omega⟩
    have hi' : B.length ≤ m := by unfold NoSector at hi; omega
    clear hi h0
    go_enter Try.func63, Try.ntmps63
    go_wp2
    go_ret
    exact ⟨rfl, rfl⟩

theorem x_Write_len {F : Nat → Prop} (w : World) {s : Nat} {B : List (List UInt8)} {P : List Snt} (h : XRep F w s B P) {i : Nat} (hi : i < B.length) (a : Option Addr) (n c : Nat) (hn : n ≠ 128) :
    Calls Try.prog 63 #[.pointer (some ⟨s, 0, none⟩), .int .i64 i, .slice a n c] w fun e w' => e = .returned (.int .i64 1) ∧ w = w' := by
  obtain ⟨R, Q, E, al, cl, vs, p, d, us, hFs, hR, hQ, hE, hb, hown, hq, hall, hsent⟩ := h
  have hc0 : w.cell? ⟨s, 0, none⟩ = some (.slice al B.length cl) := hb.cell 0
  clear hb hown hq hall hsent hR hQ hE
  have hne : ((n : Int) != 128) = true := by rw [bne_iff_ne]; omega
  have hne' : ((n : Int) == 128) = false := by rw [beq_eq_false_iff_ne]; omega
  go_enter Try.func63, Try.ntmps63
  go_wp2
  go_ret
  exact ⟨rfl, rfl⟩

set_option maxRecDepth 100000 in
set_option maxHeartbeats 1000000 in
theorem x_Write_yes {F G : Nat → Prop} (w : World) {s : Nat} {B : List (List UInt8)} {P : List Snt} (h : XRep F w s B P) {i : Nat} (hi : i < B.length) (hP : P.length ≤ 4000000000000) {a : Option Addr} (c : Nat) {xs : List UInt8} (hr : Row G w a (bvs xs)) (hA : a = none → c = 0) (hx : xs.length = 128) :
    Calls Try.prog 63 #[.pointer (some ⟨s, 0, none⟩), .int .i64 i, .slice a xs.length c] w (DGot 113 F w s (.int .i64 0) B (P ++ [(i, xs)])) := by
  have HD := Lib.hid h
  obtain ⟨R, Q, E, al, cl, vs, p, d, us, hFs, hR, hQ, hE, hb, hrow, hq, hall, hsent⟩ := h
  have hc1 : w.cell? ⟨s, 1, none⟩ = some (.slice p P.length d) := hb.cell 1
  have hc0 : w.cell? ⟨s, 0, none⟩ = some (.slice al B.length cl) := hb.cell 0
  obtain ⟨i0, hi1, hz0, hz1, hz2⟩ := info_parts infoSent
  have hi0 := Lib.hid (And.intro hi1 (And.intro hz0 (And.intro hz1 hz2)))
  clear hi1 hz0 hz1 hz2
  have HC1 := Lib.hid hc1
  have HB := Lib.hid hb
  have HQ := Lib.hid hq
  have HR := Lib.hid hr
  have HAn := Lib.hid hA
  have HRow := Lib.hid hrow
  have HA := Lib.hid hall
  have HSe := Lib.hid hsent
  have HRs := Lib.hid hR
  have HQs := Lib.hid hQ
  have HEs := Lib.hid hE
  have HX := Lib.hid hx
  clear hb hq hr hrow hall hsent hR hQ hE hA
  rw [hx]
  clear hx
  go_enter Try.func63, Try.ntmps63
  go_wp2
  go_region_law (first
    | (go_simp; go_at_call 73; rw [← HX.out]; refine (copied02 _ c HR.out.drew HAn.out (by rw [HX.out]; decide)).mono ?_; rintro e w1 ⟨a1, c1, rfl, hown1, hup1⟩
       have HO1 := Lib.hid hown1; have HU1 := Lib.hid hup1; clear hown1 hup1
       have hd0 := HU1.out.cell (a := ⟨s, 1, none⟩) HC1.out (fun f => f); have hlt1 : s < w1.heap.size := World.block_lt_of_cell? w1 _ hd0)
    | (refine step_append_Own rfl (.tmp 27) (.tmp 32) 69 rfl Try.underlying69 hi0.out.1 hi0.out.2.1 hi0.out.2.2.1 hi0.out.2.2.2 rfl (by decide) rfl ((HQ.out.drew.keep HU1.out).alloc _) rfl (Own.lit (t := 72) (sz := 2) w1 #[.int .i64 i, .slice a1 xs.length c1] 1 (by decide) rfl).row (by simp) (by simp [Value.oneCell']) (by intro h; cases h) (by simp only [maxLen]; omega) (by omega) ?_
       intro a2 c2 w2 hown2 hup2 hne2
       have hb2 := ((HB.out.drew.upd HU1.out (fun f => f)).alloc (.cells #[.int .i64 i, .slice a1 xs.length c1] 72)).upd hup2 (fun f => (HQs.out _ f).2.1 rfl)
       have HO2 := Lib.hid hown2; have HU2 := Lib.hid hup2; clear hown2 hup2 hne2
       have he0 := hb2.cell 1; have hf0 := hb2.frozen 1
       clear hb2))
  all_goals go_wp2
  all_goals go_ret
  all_goals
    obtain ⟨F', hrep, hup, hF⟩ := write_end (t := 113) hFs HRs.out HQs.out HEs.out HB.out HRow.out HA.out HSe.out (show Own (Fr w w1) w1 _ 1 _ _ _ _ from HO1.out) HU1.out.ofDrew HO2.out HU2.out
    exact ⟨rfl, F', hrep, hup, hF⟩

theorem x_Read_no {F : Nat → Prop} (w : World) {s : Nat} {B : List (List UInt8)} {P : List Snt} (h : XRep F w s B P) {i : Int} (hi : NoSector B i) :
    Calls Try.prog 64 #[.pointer (some ⟨s, 0, none⟩), .int .i64 i] w fun e w' => e = .returned (.tuple #[.slice none 0 0, .int .i64 1]) ∧ w = w' := by
  obtain ⟨R, Q, E, al, cl, vs, p, d, us, hFs, hR, hQ, hE, hb, hown, hq, hall, hsent⟩ := h
  have hc0 : w.cell? ⟨s, 0, none⟩ = some (.slice al B.length cl) := hb.cell 0
  clear hb hown hq hall hsent hR hQ hE
  by_cases h0 : i < 0
  · clear hi
    go_enter Try.func64, Try.ntmps64
    go_wp2
    go_ret2
    exact ⟨rfl, rfl⟩
  · obtain ⟨m, rfl⟩ : ∃ m : Nat, i = m := ⟨i.toNat, by omega⟩
    have hi' : B.length ≤ m := by unfold NoSector at hi; omega
    clear hi h0
    go_enter Try.func64, Try.ntmps64
    go_wp2
    go_ret2
    exact ⟨rfl, rfl⟩

set_option maxRecDepth 100000 in
set_option maxHeartbeats 1000000 in
theorem x_Read_yes {F : Nat → Prop} (w : World) {s : Nat} {B : List (List UInt8)} {P : List Snt} (h : XRep F w s B P) (hfine : Fine B P) (hP : P.length ≤ 4000000000000) {i : Nat} (hi : i < B.length) :
    Calls Try.prog 64 #[.pointer (some ⟨s, 0, none⟩), .int .i64 i] w (ToldBytes w (readOf B P i hi)) := by
  obtain ⟨R, Q, E, al, cl, vs, p, d, us, hFs, hR, hQ, hE, hb, hown, hq, hall, hsent⟩ := h
  have hc0 : w.cell? ⟨s, 0, none⟩ = some (.slice al B.length cl) := hb.cell 0
  have hc1 : w.cell? ⟨s, 1, none⟩ = some (.slice p P.length d) := hb.cell 1
  have HQ := Lib.hid hq
  have HSe := Lib.hid hsent
  have HFi := Lib.hid hfine
  have HHi := Lib.hid hi
  have HMiss := Lib.hid (fun h => readOf_miss (P := P) hi h)
  have HHit := Lib.hid (fun (j0 : Nat) (h0 : j0 < P.length) h hl => readOf_hit (B := B) (P := P) hi h0 h hl)
  obtain ⟨vb, hvb, hvel⟩ := hall.get hi
  obtain ⟨bb, ob, hal, _, hcb⟩ := rowAt hown.row hvb
  obtain ⟨ab, cb, rfl, hrb, hnb, _⟩ := hvel
  have hxb := hfine.size _ (List.getElem_mem hi)
  have HRb := Lib.hid hrb
  have HNb := Lib.hid hnb
  have HXb := Lib.hid hxb
  obtain ⟨xb, hxbe⟩ : ∃ xb, B[i]'hi = xb := ⟨_, rfl⟩
  rw [hxbe] at HRb HXb HMiss hcb
  obtain ⟨rx, hrx⟩ : ∃ rx, readOf B P i hi = rx := ⟨_, rfl⟩
  rw [hrx] at HMiss HHit ⊢
  subst hal
  have hwr : IntKind.i64.wrap ((P.length : Int) - 1) = (P.length : Int) - 1 := IntWalk.i64_in _ (by omega)
  clear hb hown hq hall hsent hR hQ hE hfine hvb hrb hnb hxb hxbe hrx
  go_enter Try.func64, Try.ntmps64
  go_wp2
  go_loopg [6] P.length (fun k v wr => w = wr ∧ k ≤ P.length ∧ (∃ z : Int, v = .int .i64 z ∧ z = (k : Int) - 1) ∧ ∀ q (hq : q < P.length), k ≤ q → (P[q]).1 ≠ i)
  case atStart => exact ⟨rfl, Nat.le_refl _, ⟨_, rfl, rfl⟩, fun q hq h => by omega⟩
  case round =>
    obtain ⟨rfl, hk, ⟨z, rfl, hz⟩, hmiss⟩ := hrel
    have HM := Lib.hid hmiss
    clear hmiss hwr
    rcases Nat.eq_zero_or_pos gk with h0 | h0
    · have hz0 : z < 0 := by omega
      have HZ := Lib.hid hz
      have H0 := Lib.hid h0
      clear hz h0
      go_wp2_with (go_at_call 73; refine (copied02 _ cb HRb.out HNb.out (by rw [HXb.out]; decide)).mono ?_; rintro e w1 ⟨a1, c1, rfl, hown1, hup1⟩; have HO1 := Lib.hid hown1; have HU1 := Lib.hid hup1; clear hown1 hup1)
      go_ret2
      have hrx := HMiss.out (fun q hq => HM.out q hq (by have := H0.out; omega))
      subst hrx
      exact ⟨a1, c1, rfl, HO1.out, HU1.out⟩
    · obtain ⟨m, hm⟩ : ∃ m, gk = m + 1 := ⟨gk - 1, by omega⟩
      obtain rfl : z = (m : Int) := by omega
      have hlt : m < P.length := by omega
      obtain ⟨b, v, rfl, _, hcA, hcB, hel⟩ := sentAt HQ.out HSe.out hlt
      obtain ⟨ax, cx, rfl, hrx, hnx, _⟩ := hel
      have hxl := (HFi.out.sent _ (List.getElem_mem hlt)).2
      have hit := HHit.out m hlt
      have HGk := Lib.hid hm
      obtain ⟨⟨pi, px⟩, hpe⟩ : ∃ q, P[m] = q := ⟨_, rfl⟩
      have HPe := Lib.hid hpe
      rw [hpe] at hcA hcB hrx hxl hit
      dsimp only at hcA hcB hrx hxl hit
      have HRx := Lib.hid hrx
      have HNx := Lib.hid hnx
      have HXl := Lib.hid hxl
      have HIt := Lib.hid hit
      clear hz h0 hm hpe hrx hnx hxl hit
      by_cases hpi : pi = i
      · have HIt2 := Lib.hid (HIt.out hpi)
        clear HIt
        subst hpi
        go_wp2_with (go_at_call 73; refine (copied02 _ cx HRx.out HNx.out (by rw [HXl.out]; decide)).mono ?_; rintro e w1 ⟨a1, c1, rfl, hown1, hup1⟩; have HO1 := Lib.hid hown1; have HU1 := Lib.hid hup1; clear hown1 hup1)
        go_ret2
        have hrx := HIt2.out (fun q hq h => HM.out q hq (by have := HGk.out; omega))
        subst hrx
        exact ⟨a1, c1, rfl, HO1.out, HU1.out⟩
      · have hne : ((pi : Int) == (i : Int)) = false := by rw [beq_eq_false_iff_ne]; omega
        have hne' : ((i : Int) == (pi : Int)) = false := by rw [beq_eq_false_iff_ne]; omega
        have HNe := Lib.hid hpi
        clear hpi
        go_wp2
        go_roundg (gk - 1)
        case measure => have := HGk.out; omega
        case rel =>
          have := HGk.out
          refine ⟨rfl, by omega, ⟨_, rfl, by omega⟩, fun q hq h => ?_⟩
          by_cases e : q = m
          · subst e
            rw [HPe.out]
            exact HNe.out
          · exact HM.out q hq (by omega)

set_option maxHeartbeats 1000000 in
theorem x_Image {F : Nat → Prop} (w : World) {s : Nat} {B : List (List UInt8)} {P : List Snt} (h : XRep F w s B P) (hl : B.length ≤ 1000000) (hx : ∀ x ∈ B, x.length ≤ 140737488355328) :
    Calls Try.prog 68 #[.pointer (some ⟨s, 0, none⟩)] w (GotRows w B) := by
  obtain ⟨R, Q, E, al, cl, vs, p, d, us, hFs, hR, hQ, hE, hb, hown, hq, hall, hsent⟩ := h
  have hc0 : w.cell? ⟨s, 0, none⟩ = some (.slice al B.length cl) := hb.cell 0
  obtain ⟨i0, hi, hz0, hz1, hz2⟩ := info_parts infoBytes
  have hi0 := Lib.hid (And.intro hi (And.intro hz0 (And.intro hz1 hz2)))
  clear hi hz0 hz1 hz2
  have HO := Lib.hid hown
  have HA := Lib.hid hall
  have HX := Lib.hid hx
  clear hb hown hq hall hsent hR hQ hE hx
  go_enter Try.func68, Try.ntmps68
  go_wp2
  go_loopg [3, 11] B.length (fun k v i wr => ∃ j : Nat, j + k = B.length ∧ i = .int .i64 j ∧ ∃ (R' E' : Nat → Prop) (a : Option Addr) (c : Nat) (us : List Value), v = .slice a j c ∧ Rows R' E' wr a j c us (B.take j) ∧ (∀ q, R' q → Fr w wr q) ∧ (∀ q, E' q → Fr w wr q) ∧ Upd Nil w wr)
  case atStart => exact ⟨0, by omega, rfl, Nil, Nil, none, 0, [], rfl, ⟨Own.none_ _ _ _ _, trivial, rfl, fun _ f => f.elim, fun _ f => f.elim, fun _ f => f.elim⟩, fun _ f => f.elim, fun _ f => f.elim, Upd.refl _ _⟩
  case round =>
    obtain ⟨j, hjk, rfl, R', E', a, c, us, rfl, hrows, hR', hE', hup⟩ := hrel
    have hjn : j ≤ B.length := by omega
    have HJ := Lib.hid hjk
    have HRw := Lib.hid hrows
    have HR' := Lib.hid hR'
    have HE' := Lib.hid hE'
    have HU := Lib.hid hup
    clear hjk hrows hR' hE' hup
    by_cases hlt : j < B.length
    · obtain ⟨v, hv, ax, cx, rfl, rx, nx, _⟩ := HA.out.get hlt
      obtain ⟨b, o, rfl, _, hcell0⟩ := rowAt HO.out.row hv
      have hcell := HU.out.cell hcell0 (fun f => f)
      have HRx := Lib.hid (rx.keep HU.out)
      have HNx := Lib.hid nx
      clear hv hcell0 rx nx
      go_wp2_with (first
        | (go_at_call 73; refine (copied02 _ cx HRx.out HNx.out (HX.out _ (List.getElem_mem hlt))).mono ?_; rintro e w1 ⟨a1, c1, rfl, hown1, hup1⟩; have HO1 := Lib.hid hown1; have HU1 := Lib.hid hup1; clear hown1 hup1)
        | (at_builtin; refine wpList_append_Own rfl _ _ _ rfl Try.underlying22 hi0.out.1 hi0.out.2.1 hi0.out.2.2.1 hi0.out.2.2.2 rfl (by decide) rfl ((HRw.out.own.keep HU1.out).alloc _) rfl (one_row w1 _ _) (by simp) (by simp [Value.oneCell']) (by intro h; cases h) (by simp only [maxLen]; omega) (by omega) ?_
           intro a2 c2 w2 hown2 hup2 hne2; have HO2 := Lib.hid hown2; have HU2 := Lib.hid hup2; clear hown2 hup2 hne2))
      go_roundg (gk - 1)
      case measure => have := HJ.out; omega
      case rel =>
        obtain ⟨f0, f1, f2⟩ := fr_grow HU.out HU1.out HU2.out
        have hrows' := HRw.out.snoc HO1.out HU1.out HO2.out HU2.out
        rw [← List.take_succ_eq_append_getElem hlt] at hrows'
        refine ⟨j + 1, by have := HJ.out; omega, by go_num, _, _, a2, c2, _, rfl, hrows', ?_, ?_, ?_⟩
        · rintro q (h | h)
          · exact f0 q (HR'.out q h)
          · exact f2 q h
        · rintro q (h | h)
          · exact f0 q (HE'.out q h)
          · exact f1 q h
        · exact ((HU.out.trans HU1.out (fun _ f _ => f)).alloc _).trans HU2.out (fun k hk hlt => by have := (HR'.out k hk).1; omega)
    · obtain rfl : j = B.length := by omega
      go_wp2
      go_ret
      have hr := HRw.out
      rw [List.take_length] at hr
      exact ⟨R', E', a, c, us, rfl, hr, HR'.out, HE'.out, HU.out⟩
end Go.Proofs.Ytbaombnnagidcaa
