/- The disk's methods: Sectors, look, Write, take, image, Pending. -/
import Derived.Test.YtbaombnnagidcaaDoorDisk
namespace Go.Proofs.YtbaombnnagidcaaDoor
open Go.RowKit

def NoSector (B : List (List UInt8)) (i : Int) : Prop := i < 0 ∨ (B.length : Int) ≤ i

theorem disk_Sectors {F : Nat → Prop} (w : World) {s : Nat} {B : List (List UInt8)} {P : List Snt} (h : DiskRep F w s B P) :
    Calls Tryd.prog 39 #[.pointer (some ⟨s, 0, none⟩)] w fun e w' => e = .returned (.int .i64 B.length) ∧ w = w' := by
  obtain ⟨R, Q, E, a, c, vs, p, d, us, hFs, hR, hQ, hE, hb, hr, hq, hall, hsent⟩ := h
  have hc0 : w.cell? ⟨s, 0, none⟩ = some (.slice a B.length c) := hb.cell 0
  clear hb hr hq hall hsent hR hQ hE
  go_enter Tryd.func39, Tryd.ntmps39
  go_wp2
  go_ret
  exact ⟨rfl, rfl⟩

theorem disk_look_yes {F : Nat → Prop} (w : World) {s : Nat} {B : List (List UInt8)} {P : List Snt} (h : DiskRep F w s B P) {i : Nat} (hi : i < B.length) :
    Calls Tryd.prog 99 #[.pointer (some ⟨s, 0, none⟩), .int .i64 i] w fun e w' => e = .returned (.int .i64 0) ∧ w = w' := by
  have HS := Lib.hid (disk_Sectors w h)
  obtain ⟨R, Q, E, a, c, vs, p, d, us, hFs, hR, hQ, hE, hb, hr, hq, hall, hsent⟩ := h
  have hc0 : w.cell? ⟨s, 0, none⟩ = some (.slice a B.length c) := hb.cell 0
  clear hb hr hq hall hsent hR hQ hE
  have hne : ((B.length : Int) == 0) = false := by rw [beq_eq_false_iff_ne]; omega
  go_enter Tryd.func99, Tryd.ntmps99
  go_wp2_with (go_at_call 39; refine HS.out.mono ?_; rintro e w' ⟨rfl, rfl⟩)
  go_ret
  exact ⟨rfl, rfl⟩

theorem disk_look_no {F : Nat → Prop} (w : World) {s : Nat} {B : List (List UInt8)} {P : List Snt} (h : DiskRep F w s B P) (hB : 1 ≤ B.length) {i : Int} (hi : NoSector B i) :
    Calls Tryd.prog 99 #[.pointer (some ⟨s, 0, none⟩), .int .i64 i] w fun e w' => e = .returned (.int .i64 1) ∧ w = w' := by
  have HS := Lib.hid (disk_Sectors w h)
  obtain ⟨R, Q, E, a, c, vs, p, d, us, hFs, hR, hQ, hE, hb, hr, hq, hall, hsent⟩ := h
  have hc0 : w.cell? ⟨s, 0, none⟩ = some (.slice a B.length c) := hb.cell 0
  clear hb hr hq hall hsent hR hQ hE
  have hne : ((B.length : Int) == 0) = false := by rw [beq_eq_false_iff_ne]; omega
  by_cases h0 : i < 0
  · clear hi
    go_enter Tryd.func99, Tryd.ntmps99
    go_wp2_with (go_at_call 39; refine HS.out.mono ?_; rintro e w' ⟨rfl, rfl⟩)
    go_ret
    exact ⟨rfl, rfl⟩
  · obtain ⟨m, rfl⟩ : ∃ m : Nat, i = m := ⟨i.toNat, by omega⟩
    have hi' : B.length ≤ m := by
      rcases hi with hi | hi <;> omega
    clear hi h0
    go_enter Tryd.func99, Tryd.ntmps99
    go_wp2_with (go_at_call 39; refine HS.out.mono ?_; rintro e w' ⟨rfl, rfl⟩)
    go_ret
    exact ⟨rfl, rfl⟩

theorem disk_Write_no {F : Nat → Prop} (w : World) {s : Nat} {B : List (List UInt8)} {P : List Snt} (h : DiskRep F w s B P) (hB : 1 ≤ B.length) {i : Int} (hi : NoSector B i) (a : Option Addr) (n c : Nat) :
    Calls Tryd.prog 76 #[.pointer (some ⟨s, 0, none⟩), .int .i64 i, .slice a n c] w fun e w' => e = .returned (.int .i64 1) ∧ w = w' := by
  have HL := Lib.hid (disk_look_no w h hB hi)
  clear h hi
  go_enter Tryd.func76, Tryd.ntmps76
  go_wp2_with (go_at_call 99; refine HL.out.mono ?_; rintro e w' ⟨rfl, rfl⟩)
  go_ret
  exact ⟨rfl, rfl⟩

theorem disk_Write_len {F : Nat → Prop} (w : World) {s : Nat} {B : List (List UInt8)} {P : List Snt} (h : DiskRep F w s B P) {i : Nat} (hi : i < B.length) (a : Option Addr) (n c : Nat) (hn : n ≠ 128) :
    Calls Tryd.prog 76 #[.pointer (some ⟨s, 0, none⟩), .int .i64 i, .slice a n c] w fun e w' => e = .returned (.int .i64 1) ∧ w = w' := by
  have HL := Lib.hid (disk_look_yes w h hi)
  clear h hi
  have hne : ((n : Int) != 128) = true := by rw [bne_iff_ne]; omega
  have hne' : ((n : Int) == 128) = false := by rw [beq_eq_false_iff_ne]; omega
  go_enter Tryd.func76, Tryd.ntmps76
  go_wp2_with (go_at_call 99; refine HL.out.mono ?_; rintro e w' ⟨rfl, rfl⟩)
  go_ret
  exact ⟨rfl, rfl⟩

set_option maxHeartbeats 1000000 in
theorem disk_Write_yes {F G : Nat → Prop} (w : World) {s : Nat} {B : List (List UInt8)} {P : List Snt} (h : DiskRep F w s B P) {i : Nat} (hi : i < B.length) (hP : P.length ≤ 4000000000000) {a : Option Addr} (c : Nat) {xs : List UInt8} (hr : Row G w a (bvs xs)) (hx : xs.length = 128) :
    Calls Tryd.prog 76 #[.pointer (some ⟨s, 0, none⟩), .int .i64 i, .slice a xs.length c] w (DGot 76 F w s (.int .i64 0) B (P ++ [(i, xs)])) := by
  have HL := Lib.hid (disk_look_yes w h hi)
  have HD := Lib.hid h
  obtain ⟨R, Q, E, al, cl, vs, p, d, us, hFs, hR, hQ, hE, hb, hrow, hq, hall, hsent⟩ := h
  have hc1 : w.cell? ⟨s, 1, none⟩ = some (.slice p P.length d) := hb.cell 1
  obtain ⟨i0, hi1, hz0, hz1, hz2⟩ := info_parts infoSent
  have hi0 := Lib.hid (And.intro hi1 (And.intro hz0 (And.intro hz1 hz2)))
  clear hi1 hz0 hz1 hz2
  have HC1 := Lib.hid hc1
  have HB := Lib.hid hb
  have HQ := Lib.hid hq
  have HR := Lib.hid hr
  have HRow := Lib.hid hrow
  have HA := Lib.hid hall
  have HSe := Lib.hid hsent
  have HRs := Lib.hid hR
  have HQs := Lib.hid hQ
  have HEs := Lib.hid hE
  have HX := Lib.hid hx
  clear hb hq hr hrow hall hsent hR hQ hE
  rw [hx]
  clear hx
  go_enter Tryd.func76, Tryd.ntmps76
  go_wp2_with (go_at_call 99; refine HL.out.mono ?_; rintro e w' ⟨rfl, rfl⟩)
  go_region_law (first
    | (go_simp; go_at_call 13; rw [← HX.out]; refine (bytesClone _ c HR.out.drew (by rw [HX.out]; decide)).mono ?_; rintro e w1 ⟨a1, c1, rfl, hown1, hup1⟩
       have HO1 := Lib.hid hown1; have HU1 := Lib.hid hup1; clear hown1 hup1
       have hd0 := HU1.out.cell (a := ⟨s, 1, none⟩) HC1.out (fun f => f); have hlt1 : s < w1.heap.size := World.block_lt_of_cell? w1 _ hd0)
    | (refine step_append_Own rfl (.tmp 21) (.tmp 26) 74 rfl Tryd.underlying74 hi0.out.1 hi0.out.2.1 hi0.out.2.2.1 hi0.out.2.2.2 rfl (by decide) rfl ((HQ.out.drew.keep HU1.out).alloc _) rfl (Own.lit (t := 145) (sz := 2) w1 #[.int .i64 i, .slice a1 xs.length c1] 1 (by decide) rfl).row (by simp) (by simp [Value.oneCell']) (by intro h; cases h) (by simp only [maxLen]; omega) (by omega) ?_
       intro a2 c2 w2 hown2 hup2 hne2
       have hb2 := ((HB.out.drew.upd HU1.out (fun f => f)).alloc (.cells #[.int .i64 i, .slice a1 xs.length c1] 145)).upd hup2 (fun f => (HQs.out _ f).2.1 rfl)
       have HO2 := Lib.hid hown2; have HU2 := Lib.hid hup2; clear hown2 hup2 hne2
       have he0 := hb2.cell 1; have hf0 := hb2.frozen 1
       clear hb2))
  all_goals go_wp2
  all_goals go_ret
  all_goals
    obtain ⟨F', hrep, hup, hF⟩ := write_end (t := 76) hFs HRs.out HQs.out HEs.out HB.out HRow.out HA.out HSe.out (show Own (Fr w w1) w1 _ 1 _ _ _ _ from HO1.out) HU1.out.ofDrew HO2.out HU2.out
    exact ⟨rfl, F', hrep, hup, hF⟩

set_option maxHeartbeats 1000000 in
theorem disk_take {F G : Nat → Prop} (w : World) {s : Nat} {B : List (List UInt8)} {P : List Snt} (h : DiskRep F w s B P) {i : Nat} (hi : i < B.length) {v : Value} {xs : List UInt8} (hr : Elem G w v xs) (hx : xs.length = 128) :
    Calls Tryd.prog 103 #[.pointer (some ⟨s, 0, none⟩), .agg #[.int .i64 i, v]] w fun e w' => DGot 76 F w s (.tuple #[]) (B.set i xs) P e w' ∧ w'.cell? ⟨s, 1, none⟩ = w.cell? ⟨s, 1, none⟩ := by
  have HD := Lib.hid h
  obtain ⟨R, Q, E, al, cl, vs, p, d, us, hFs, hR, hQ, hE, hb, hrow, hq, hall, hsent⟩ := h
  have hc0 : w.cell? ⟨s, 0, none⟩ = some (.slice al B.length cl) := hb.cell 0
  obtain ⟨g, rfl, hRg⟩ := hrow.isNone (by omega)
  obtain ⟨a, c, rfl, hra, hac⟩ := hr
  have HB := Lib.hid hb
  have HRow := Lib.hid hrow
  have HR := Lib.hid hra
  have HX := Lib.hid hx
  have hgs : g ≠ s := (hR g hRg).2.1
  have hc1 : w.cell? ⟨s, 1, none⟩ = some (.slice p P.length d) := hb.cell 1
  have hs := hb.lt
  have hgl := (hR g hRg).2.2
  have hil := hi
  clear hb hrow hq hall hsent hR hQ hE hra hac hx
  go_enter Tryd.func103, Tryd.ntmps103
  go_wp2
  have HCA := Lib.hid (((Upd.refl Nil w).alloc (.cells #[.int .i64 i, .slice a xs.length c] 145)).cell hc0 (fun f => f))
  have HBx := Lib.hid (Blk.new w 145 #[.int .i64 i, .slice a xs.length c])
  go_region_law (go_simp; go_at_call 13; refine (bytesClone _ c (HR.out.alloc _).drew (by rw [HX.out]; decide)).mono ?_; rintro e w1 ⟨a1, c1, rfl, hown1, hup1⟩
                 have hup1 := hup1.ofDrew
                 have hown1 : Own (Fr (w.alloc (.cells #[.int .i64 i, .slice a xs.length c] 145)) w1) w1 5 1 a1 xs.length c1 (bvs xs) := hown1
                 have hrow1 := (HRow.out.alloc (.cells #[.int .i64 i, .slice a xs.length c] 145)).upd hup1 (fun _ _ f => f)
                 have hd0 := hup1.cell HCA.out (fun f => f)
                 have hx0 : w1.cell? ⟨w.heap.size, 0, none⟩ = some (.int .i64 i) := (HBx.out.upd hup1 (fun f => f)).cell 0
                 have hx1 : w1.cell? ⟨w.heap.size, 1, none⟩ = some (.slice a xs.length c) := (HBx.out.upd hup1 (fun f => f)).cell 1
                 have hf1 : w1.frozen? ⟨g, i, none⟩ = false := hrow1.frozen rfl i
                 obtain ⟨u, hu⟩ := hrow1.there rfl (j := i) (by have := hrow1.le; omega)
                 have HO1 := Lib.hid hown1; have HU1 := Lib.hid hup1; clear hown1 hup1 hrow1)
  all_goals go_wp2
  all_goals go_end0
  all_goals
    have hup : Upd Nil w w1 := ((Upd.refl Nil w).alloc _).trans HU1.out (fun _ f _ => f)
    have hown : Own (Fr w w1) w1 5 1 a1 xs.length c1 (bvs xs) := HO1.out.mono (fun k hk => ⟨by have := hk.1; simp only [World.size_alloc] at this; omega, hk.2⟩)
    obtain ⟨_, F', hrep, hupF, hF⟩ := take_end (i := i) HD.out hc0 rfl hown hup
    refine ⟨⟨rfl, F', hrep, hupF, hF⟩, ?_⟩
    rw [hc1]
    exact (Upd.refl (One g) w1).setCell (p := ⟨g, i, none⟩) (.inl rfl) _ |>.cell (hup.cell hc1 (fun f => f)) (fun e => hgs e.symm)

set_option maxHeartbeats 1000000 in
theorem platter_image {F : Nat → Prop} (w : World) {s : Nat} {B : List (List UInt8)} {P : List Snt} (h : DiskRep F w s B P) (hl : B.length ≤ 1000000) (hx : ∀ x ∈ B, x.length ≤ 140737488355328) :
    Calls Tryd.prog 106 #[.pointer (some ⟨s, 0, none⟩)] w (GotRows w B) := by
  obtain ⟨R, Q, E, al, cl, vs, p, d, us, hFs, hR, hQ, hE, hb, hown, hq, hall, hsent⟩ := h
  have hc0 : w.cell? ⟨s, 0, none⟩ = some (.slice al B.length cl) := hb.cell 0
  obtain ⟨i0, hi, hz0, hz1, hz2⟩ := info_parts infoBytes
  have hi0 := Lib.hid (And.intro hi (And.intro hz0 (And.intro hz1 hz2)))
  clear hi hz0 hz1 hz2
  have HO := Lib.hid hown
  have HA := Lib.hid hall
  have HX := Lib.hid hx
  clear hb hown hq hall hsent hR hQ hE hx
  go_enter Tryd.func106, Tryd.ntmps106
  go_wp2
  go_loopg [3, 11] B.length (fun k v i wr => ∃ j : Nat, j + k = B.length ∧ i = .int .i64 j ∧ ∃ (R' E' : Nat → Prop) (a : Option Addr) (c : Nat) (us : List Value), v = .slice a j c ∧ Rows R' E' wr a j c us (B.take j) ∧ (∀ q, R' q → Fr w wr q) ∧ (∀ q, E' q → Fr w wr q) ∧ Upd Nil w wr)
  case atStart => exact ⟨0, by omega, rfl, Nil, Nil, none, 0, [], rfl, ⟨Own.none_ _ _ _ _, trivial, rfl, fun _ f => f.elim, fun _ f => f.elim, fun _ f => f.elim⟩, fun _ f => f.elim, fun _ f => f.elim, Upd.refl _ _⟩
  case round =>
    obtain ⟨j, hjk, rfl, R', E', a, c, us, rfl, hrows, hR', hE', hup⟩ := hrel
    have hjn : j ≤ B.length := by omega
    have HJ := Lib.hid hjk
    have HRw := Lib.hid hrows
    have HR' := Lib.hid hR'
    have HE' := Lib.hid hE'
    have HU := Lib.hid hup
    clear hjk hrows hR' hE' hup
    by_cases hlt : j < B.length
    · obtain ⟨v, hv, ax, cx, rfl, rx, _⟩ := HA.out.get hlt
      obtain ⟨b, o, rfl, _, hcell0⟩ := rowAt HO.out.row hv
      have hcell := HU.out.cell hcell0 (fun f => f)
      have HRx := Lib.hid (rx.keep HU.out)
      clear hv hcell0 rx
      go_wp2_with (first
        | (go_at_call 13; refine (bytesClone _ cx HRx.out (HX.out _ (List.getElem_mem hlt))).mono ?_; rintro e w1 ⟨a1, c1, rfl, hown1, hup1⟩; have HO1 := Lib.hid hown1; have HU1 := Lib.hid hup1; clear hown1 hup1)
        | (at_builtin; refine wpList_append_Own rfl _ _ _ rfl Tryd.underlying59 hi0.out.1 hi0.out.2.1 hi0.out.2.2.1 hi0.out.2.2.2 rfl (by decide) rfl ((HRw.out.own.keep HU1.out).alloc _) rfl (one_row w1 _ _) (by simp) (by simp [Value.oneCell']) (by intro h; cases h) (by simp only [maxLen]; omega) (by omega) ?_
           intro a2 c2 w2 hown2 hup2 hne2; have HO2 := Lib.hid hown2; have HU2 := Lib.hid hup2; clear hown2 hup2 hne2))
      go_roundg (gk - 1)
      case measure => have := HJ.out; omega
      case rel =>
        obtain ⟨f0, f1, f2⟩ := fr_grow HU.out HU1.out HU2.out
        have hrows' := HRw.out.snoc HO1.out HU1.out HO2.out HU2.out
        rw [← List.take_succ_eq_append_getElem hlt] at hrows'
        refine ⟨j + 1, by have := HJ.out; omega, by go_num, _, _, a2, c2, _, rfl, hrows', ?_, ?_, ?_⟩
        · rintro q (h | h)
          · exact f0 q (HR'.out q h)
          · exact f2 q h
        · rintro q (h | h)
          · exact f0 q (HE'.out q h)
          · exact f1 q h
        · exact ((HU.out.trans HU1.out (fun _ f _ => f)).alloc _).trans HU2.out (fun k hk hlt => by have := (HR'.out k hk).1; omega)
    · obtain rfl : j = B.length := by omega
      go_wp2
      go_ret
      have hr := HRw.out
      rw [List.take_length] at hr
      exact ⟨R', E', a, c, us, rfl, hr, HR'.out, HE'.out, HU.out⟩

theorem disk_Image {F : Nat → Prop} (w : World) {s : Nat} {B : List (List UInt8)} {P : List Snt} (h : DiskRep F w s B P) (hl : B.length ≤ 1000000) (hx : ∀ x ∈ B, x.length ≤ 140737488355328) :
    Calls Tryd.prog 114 #[.pointer (some ⟨s, 0, none⟩)] w (GotRows w B) := by
  have HI := Lib.hid (platter_image w h hl hx)
  clear h hx
  go_enter Tryd.func114, Tryd.ntmps114
  go_wp2_with (go_at_call 106; refine HI.out.mono ?_; rintro e w1 ⟨R', E', a, c, us, rfl, h1, h2, h3, h4⟩; have H1 := Lib.hid h1; have H4 := Lib.hid h4; clear h1 h4)
  go_ret
  exact ⟨R', E', a, c, us, rfl, H1.out, h2, h3, H4.out⟩

/-! ### a list of writes in a row of one's own -/
structure SRows (R E : Nat → Prop) (w : World) (a : Option Addr) (n c : Nat) (us : List Value) (l : List Snt) : Prop where
  own : Own R w 145 2 a n c us
  all : Sents E w us l
  len : l.length = n
  inR : ∀ k, R k → k < w.heap.size
  inE : ∀ k, E k → k < w.heap.size
  apart : ∀ k, E k → ¬ R k

theorem SRows.none_ (w : World) : SRows Nil Nil w none 0 0 [] [] := ⟨Own.none_ _ _ _ _, trivial, rfl, fun _ f => f.elim, fun _ f => f.elim, fun _ f => f.elim⟩
theorem SRows.keep {R E : Nat → Prop} {w w' : World} {a : Option Addr} {n c : Nat} {us : List Value} {l : List Snt} (h : SRows R E w a n c us l) (u : Upd Nil w w') : SRows R E w' a n c us l :=
  ⟨h.own.keep u, h.all.upd u (fun _ _ f => f), h.len, fun k hk => Nat.lt_of_lt_of_le (h.inR k hk) u.size, fun k hk => Nat.lt_of_lt_of_le (h.inE k hk) u.size, h.apart⟩

theorem SRows.snoc {R E : Nat → Prop} {w w1 w2 : World} {a a1 a2 : Option Addr} {n c c1 c2 i : Nat} {us : List Value} {l : List Snt} {xs : List UInt8} {o : Obj} (h : SRows R E w a n c us l)
    (hown1 : Own (Fr w w1) w1 5 1 a1 xs.length c1 (bvs xs)) (hup1 : Upd Nil w w1)
    (hown2 : Own (fun k => R k ∨ Fr (w1.alloc o) w2 k) w2 145 2 a2 (n + 1) c2 (us ++ [.int .i64 i, .slice a1 xs.length c1])) (hup2 : Upd R (w1.alloc o) w2) :
    SRows (fun k => R k ∨ Fr (w1.alloc o) w2 k) (fun k => E k ∨ Fr w w1 k) w2 a2 (n + 1) c2 (us ++ [.int .i64 i, .slice a1 xs.length c1]) (l ++ [(i, xs)]) := by
  have hz1 := hup1.size
  have hz2 := hup2.size
  simp only [World.size_alloc] at hz2
  refine ⟨hown2, ?_, by simp [h.len], ?_, ?_, ?_⟩
  · have hold : Sents (fun k => E k ∨ Fr w w1 k) w2 us l := h.all.mono (fun v x hh => by
      refine (((hh.upd hup1 (fun k _ f => f)).keep ((Upd.refl Nil w1).alloc o)).upd hup2 ?_).mono (fun k h => Or.inl h)
      exact fun k he hr => h.apart k he hr)
    refine hold.snoc ?_
    refine (((hown1.elem).keep ((Upd.refl Nil w1).alloc o)).upd hup2 ?_).mono (fun k h => Or.inr h)
    rintro k ⟨h1, _⟩ hr
    have := h.inR k hr
    omega
  · rintro k (hk | ⟨_, hk⟩)
    · have := h.inR k hk
      omega
    · exact hk
  · rintro k (hk | ⟨_, hk⟩)
    · have := h.inE k hk
      omega
    · omega
  · rintro k (hk | ⟨h1, h2⟩) (hr | ⟨h3, h4⟩)
    · exact h.apart k hk hr
    · have := h.inE k hk
      simp only [World.size_alloc] at h3
      omega
    · have := h.inR k hr
      omega
    · simp only [World.size_alloc] at h3
      omega

/-- a list of writes that is handed back, all of it new -/
def GotSents (w : World) (l : List Snt) (e : Ending) (w' : World) : Prop :=
  ∃ R E a c us, e = .returned (.slice a l.length c) ∧ SRows R E w' a l.length c us l ∧ (∀ k, R k → Fr w w' k) ∧ (∀ k, E k → Fr w w' k) ∧ Upd Nil w w'

set_option maxHeartbeats 1000000 in
theorem disk_Pending {F : Nat → Prop} (w : World) {s : Nat} {B : List (List UInt8)} {P : List Snt} (h : DiskRep F w s B P) (hl : P.length ≤ 4000000000000) (hx : ∀ x ∈ P, x.2.length ≤ 140737488355328) :
    Calls Tryd.prog 107 #[.pointer (some ⟨s, 0, none⟩)] w (GotSents w P) := by
  obtain ⟨R, Q, E, al, cl, vs, p, d, us, hFs, hR, hQ, hE, hb, hown, hq, hall, hsent⟩ := h
  have hc0 : w.cell? ⟨s, 1, none⟩ = some (.slice p P.length d) := hb.cell 1
  obtain ⟨i0, hi, hz0, hz1, hz2⟩ := info_parts infoSent
  have hi0 := Lib.hid (And.intro hi (And.intro hz0 (And.intro hz1 hz2)))
  clear hi hz0 hz1 hz2
  have HO := Lib.hid hq
  have HA := Lib.hid hsent
  have HX := Lib.hid hx
  clear hb hown hq hall hsent hR hQ hE hx
  go_enter Tryd.func107, Tryd.ntmps107
  go_wp2
  go_loopg [3, 13] P.length (fun k v i wr => ∃ j : Nat, j + k = P.length ∧ i = .int .i64 j ∧ ∃ (R' E' : Nat → Prop) (a : Option Addr) (c : Nat) (us : List Value), v = .slice a j c ∧ SRows R' E' wr a j c us (P.take j) ∧ (∀ q, R' q → Fr w wr q) ∧ (∀ q, E' q → Fr w wr q) ∧ Upd Nil w wr)
  case atStart => exact ⟨0, by omega, rfl, Nil, Nil, none, 0, [], rfl, SRows.none_ _, fun _ f => f.elim, fun _ f => f.elim, Upd.refl _ _⟩
  case round =>
    obtain ⟨j, hjk, rfl, R', E', a, c, us', rfl, hrows, hR', hE', hup⟩ := hrel
    have hjn : j ≤ P.length := by omega
    have HJ := Lib.hid hjk
    have HRw := Lib.hid hrows
    have HR' := Lib.hid hR'
    have HE' := Lib.hid hE'
    have HU := Lib.hid hup
    clear hjk hrows hR' hE' hup
    by_cases hlt : j < P.length
    · obtain ⟨b, v, rfl, _, hcell0, hcell1, ax, cx, rfl, rx, _⟩ := sentAt HO.out HA.out hlt
      have hcellA := HU.out.cell hcell0 (fun f => f)
      have hcellB := HU.out.cell hcell1 (fun f => f)
      have hxj := HX.out _ (List.getElem_mem hlt)
      have htk := List.take_succ_eq_append_getElem hlt
      obtain ⟨⟨i, xs⟩, hij⟩ : ∃ q, P[j] = q := ⟨_, rfl⟩
      rw [hij] at rx hcellA hcellB hxj htk
      have HRx := Lib.hid (rx.keep HU.out)
      have HXj := Lib.hid hxj
      have HTk := Lib.hid htk
      clear hcell0 hcell1 rx hxj htk hij
      go_wp2
      obtain ⟨W1, hW1⟩ : ∃ W1, wr.alloc (.cells #[.int .i64 i, .slice ax xs.length cx] 145) = W1 := ⟨_, rfl⟩
      have hU1 : Upd Nil wr W1 := by rw [← hW1]; exact (Upd.refl Nil wr).alloc _
      have hB1 : Blk W1 wr.heap.size 145 #[.int .i64 i, .slice ax xs.length cx] := by rw [← hW1]; exact Blk.new wr _ _
      have hy0 : W1.cell? ⟨wr.heap.size, 0, none⟩ = some (.int .i64 i) := hB1.cell 0
      have hy1 : W1.cell? ⟨wr.heap.size, 1, none⟩ = some (.slice ax xs.length cx) := hB1.cell 1
      have HUW := Lib.hid hU1
      have HBW := Lib.hid hB1
      rw [hW1]
      clear hU1 hB1 hW1
      go_region_law (first
        | (go_simp; go_at_call 13; refine (bytesClone _ cx (HRx.out.keep HUW.out).drew HXj.out).mono ?_; rintro e w1 ⟨a1, c1, rfl, hown1, hup1⟩
           have hup1 := hup1.ofDrew
           have hown1 : Own (Fr W1 w1) w1 5 1 a1 xs.length c1 (bvs xs) := hown1
           have hx0 : w1.cell? ⟨wr.heap.size, 0, none⟩ = some (.int .i64 i) := (HBW.out.upd hup1 (fun f => f)).cell 0
           have hx1 : w1.cell? ⟨wr.heap.size, 1, none⟩ = some (.slice ax xs.length cx) := (HBW.out.upd hup1 (fun f => f)).cell 1
           have HO1 := Lib.hid hown1; have HU1 := Lib.hid hup1; clear hown1 hup1)
        | (refine step_append_Own rfl (.tmp 17) (.tmp 24) 74 rfl Tryd.underlying74 hi0.out.1 hi0.out.2.1 hi0.out.2.2.1 hi0.out.2.2.2 rfl (by decide) rfl ((((HRw.out.own.keep HUW.out).keep HU1.out)).alloc _) rfl (Own.lit (t := 145) (sz := 2) w1 #[.int .i64 i, .slice a1 xs.length c1] 1 (by decide) rfl).row (by simp) (by simp [Value.oneCell']) (by intro h; cases h) (by simp only [maxLen]; omega) (by omega) ?_
           intro a2 c2 w2 hown2 hup2 hne2; have HO2 := Lib.hid hown2; have HU2 := Lib.hid hup2; clear hown2 hup2 hne2))
      all_goals go_wp2
      all_goals go_roundg (gk - 1)
      all_goals first
        | (have := HJ.out; omega)
        | (obtain ⟨f0, f1, f2⟩ := fr_grow (HU.out.trans HUW.out (fun _ f _ => f)) HU1.out HU2.out
           have hz := HUW.out.size
           have hrows' := (HRw.out.keep HUW.out).snoc HO1.out HU1.out HO2.out HU2.out
           rw [← HTk.out] at hrows'
           refine ⟨j + 1, by have := HJ.out; omega, by go_num, _, _, a2, c2, _, rfl, hrows', ?_, ?_, ?_⟩
           · rintro q (h | h)
             · have := HR'.out q h
               exact f0 q ⟨this.1, by have := this.2; omega⟩
             · exact f2 q h
           · rintro q (h | h)
             · have := HE'.out q h
               exact f0 q ⟨this.1, by have := this.2; omega⟩
             · exact f1 q h
           · exact (((HU.out.trans HUW.out (fun _ f _ => f)).trans HU1.out (fun _ f _ => f)).alloc _).trans HU2.out (fun k hk hlt => by have := (HR'.out k hk).1; omega))
    · obtain rfl : j = P.length := by omega
      go_wp2
      go_ret
      have hr := HRw.out
      rw [List.take_length] at hr
      exact ⟨R', E', a, c, us', rfl, hr, HR'.out, HE'.out, HU.out⟩
end Go.Proofs.YtbaombnnagidcaaDoor
