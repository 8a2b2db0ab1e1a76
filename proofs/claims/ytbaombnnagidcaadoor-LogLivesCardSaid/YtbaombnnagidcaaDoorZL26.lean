/- The law's pair: same. -/
import Derived.Test.YtbaombnnagidcaaDoorZL25
import Derived.BigRegion

namespace Go.Proofs.YtbaombnnagidcaaDoor
open Go.RowKit

set_option maxRecDepth 100000 in
set_option maxHeartbeats 16000000 in
theorem pair_same (w : World) {p d x l m : Nat} {F1 F2 : Nat → Prop} {S : LogS} {B : List (List UInt8)} (h : Both w p d x l m F1 F2 S B) :
    Calls Tryd.prog 52 #[.pointer (some ⟨p, 0, none⟩)] w fun e w' => e = .returned (.bool true) ∧ Upd Nil w w' := by
  obtain ⟨hb, ⟨_, FL, FD, _, _, hl, hd⟩, ⟨_, FM, FX, _, _, hm, hx⟩, _, _, _, hf, hB, _⟩ := h
  have hsec : S.sectors ≤ 4096 := by have := hf.le; omega
  have HL := Lib.hid (fun W (u : Upd Nil w W) => hl.keep u)
  have HM := Lib.hid (fun W (u : Upd Nil w W) => hm.keep u)
  have HD := Lib.hid (fun W (u : Upd Nil w W) => hd.upd u (fun _ _ f => f))
  have HX := Lib.hid (fun W (u : Upd Nil w W) => hx.upd u (fun _ _ f => f))
  have HB := Lib.hid hB
  have HSt := Lib.hid (And.intro hsec hf.stream)
  have c0 : w.cell? ⟨p, 0, none⟩ = some (.pointer (some ⟨d, 0, none⟩)) := hb.cell 0
  have c1 : w.cell? ⟨p, 1, none⟩ = some (.pointer (some ⟨x, 0, none⟩)) := hb.cell 1
  have c2 : w.cell? ⟨p, 2, none⟩ = some (.pointer (some ⟨l, 0, none⟩)) := hb.cell 2
  have c3 : w.cell? ⟨p, 3, none⟩ = some (.pointer (some ⟨m, 0, none⟩)) := hb.cell 3
  have C := Lib.hid (And.intro c0 (And.intro c1 (And.intro c2 c3)))
  have uu := Lib.hid ((Upd.refl Nil w).drew)
  obtain ⟨rm, hrm⟩ : ∃ n, S.sectors * 112 - S.stream.length = n := ⟨_, rfl⟩
  have HRm := Lib.hid hrm
  clear hl hm hd hx hb hf hB hrm hsec
  go_enter Tryd.func52, Tryd.ntmps52
  go_wp2_with fail
  go_region_held3 (fun W => W.cell? ⟨p, 0, none⟩ = some (.pointer (some ⟨d, 0, none⟩)) ∧ W.cell? ⟨p, 1, none⟩ = some (.pointer (some ⟨x, 0, none⟩)) ∧ W.cell? ⟨p, 2, none⟩ = some (.pointer (some ⟨l, 0, none⟩)) ∧ W.cell? ⟨p, 3, none⟩ = some (.pointer (some ⟨m, 0, none⟩)))
    (first | exact ⟨uu.out.cell C.out.1 (fun f => f), uu.out.cell C.out.2.1 (fun f => f), uu.out.cell C.out.2.2.1 (fun f => f), uu.out.cell C.out.2.2.2 (fun f => f)⟩ | exact ⟨c0, c1, c2, c3⟩)
    (first
      | (go_at_call 45; refine (log_First _ (HL.out _ uu.out)).mono ?_; rintro e w' ⟨rfl, rfl⟩)
      | (go_at_call 90; refine (ref3_First _ (HM.out _ uu.out)).mono ?_; rintro e w' ⟨rfl, rfl⟩)
      | (go_at_call 42; refine (log_Last _ (HL.out _ uu.out)).mono ?_; rintro e w' ⟨rfl, rfl⟩)
      | (go_at_call 91; refine (ref3_Last _ (HM.out _ uu.out)).mono ?_; rintro e w' ⟨rfl, rfl⟩)
      | (go_at_call 46; refine (log_Forced _ (HL.out _ uu.out)).mono ?_; rintro e w' ⟨rfl, rfl⟩)
      | (go_at_call 92; refine (ref3_Forced _ (HM.out _ uu.out)).mono ?_; rintro e w' ⟨rfl, rfl⟩)
      | (go_at_call 40; refine (log_Room _ (HL.out _ uu.out) HSt.out.1 HSt.out.2).mono ?_; intro e w1 hg; rw [HRm.out] at hg; obtain ⟨rfl, g⟩ := hg; have uu := Lib.hid (uu.out.trans g (fun _ f _ => f)); clear g)
      | (go_at_call 93; refine (ref3_Room _ (HM.out _ uu.out) HSt.out.1 HSt.out.2).mono ?_; intro e w1 hg; rw [HRm.out] at hg; obtain ⟨rfl, g⟩ := hg; have uu := Lib.hid (uu.out.trans g (fun _ f _ => f)); clear g)
      | (go_at_call 85; refine (sameDisks _ (HD.out _ uu.out) (HX.out _ uu.out) HB.out (Nat.zero_le _)).mono ?_; rintro e w2 ⟨rfl, g⟩; have uu := Lib.hid (uu.out.trans g (fun _ f _ => f)); clear g))
  all_goals go_wp2
  all_goals go_ret
  all_goals exact ⟨rfl, uu.out⟩
end Go.Proofs.YtbaombnnagidcaaDoor

namespace Go.Proofs.YtbaombnnagidcaaDoor
open Go.RowKit

/-- both disks, and a pair over them -/
structure Disks2 (w : World) (p d x : Nat) (lv mv : Option Addr) (FD FX : Nat → Prop) (B : List (List UInt8)) : Prop where
  blk : Blk w p 90 (pairCells d x lv mv)
  prog : DiskRep FD w d B []
  ref : XRep FX w x B []
  no1 : ¬ FD 0
  no2 : ¬ FX 0
  in1 : ∀ k, FD k → k < w.heap.size ∧ k ≠ p
  in2 : ∀ k, FX k → k < w.heap.size ∧ k ≠ p
  apart : ∀ k, FD k → ¬ FX k
  disk : Fine B []

set_option maxRecDepth 100000 in
set_option maxHeartbeats 16000000 in
theorem pair_open_yes (w : World) {p d x : Nat} {lv mv : Option Addr} {FD FX : Nat → Prop} {B : List (List UInt8)} (h : Disks2 w p d x lv mv FD FX B) {fr n : Nat} (h1 : 1 ≤ n) (h2 : fr + n ≤ B.length) (tab : Tab w) :
    Calls Tryd.prog 50 #[.pointer (some ⟨p, 0, none⟩), .int .i64 (fr : Int), .int .i64 (n : Int)] w fun e w' => e = .returned (.bool true) ∧
      ∃ (l m : Nat) (F1 F2 : Nat → Prop), Both w' p d x l m F1 F2 (openS B fr n) (applyP B (openW B fr n)) ∧ Upd (fun k => FD k ∨ FX k ∨ k = p) w w' ∧ (∀ k, F1 k → FD k ∨ Fr w w' k) ∧ ∀ k, F2 k → FX k ∨ Fr w w' k := by
  obtain ⟨hb, hd, hx, n1, n2, i1, i2, ap, hB⟩ := h
  have hsz : 0 < w.heap.size := World.block_lt_of_cell? _ _ (tab 0 (by decide))
  have hbp : ¬ FD p := fun f => (i1 p f).2 rfl
  have hxp : ¬ FX p := fun f => (i2 p f).2 rfl
  have c0 : w.cell? ⟨p, 0, none⟩ = some (.pointer (some ⟨d, 0, none⟩)) := hb.cell 0
  have HB := Lib.hid hb
  have HD := Lib.hid hd
  have HX := Lib.hid hx
  have HN := Lib.hid (And.intro n1 n2)
  have HI1 := Lib.hid i1
  have HI2 := Lib.hid i2
  have HAp := Lib.hid ap
  have HFi := Lib.hid hB
  have HT := Lib.hid tab
  have hpl := hb.lt
  have hfew : (splitL (openR B fr n).2.2).1.length ≤ 9223372036854775807 := by
    obtain ⟨f1, f2, _, _⟩ := openR_facts B fr n
    obtain ⟨g1, g2⟩ := splitL_facts _ (openR B fr n).2.2 (Nat.le_refl _)
    have := hB.le
    omega
  have hfine : LFine (openS B fr n) := openS_fine h1 (by have := hB.le; omega)
  have hdisk : Fine (applyP B (openW B fr n)) [] := (fine_openW hB h1 h2).flush
  have hall : (openS B fr n).fr + (openS B fr n).sectors ≤ (applyP B (openW B fr n)).length := by rw [length_applyP]; exact h2
  obtain ⟨recs, hrc⟩ : ∃ q, (splitL (openR B fr n).2.2).1 = q := ⟨_, rfl⟩
  obtain ⟨S, hS⟩ : ∃ q, openS B fr n = q := ⟨_, rfl⟩
  obtain ⟨B', hB'⟩ : ∃ q, applyP B (openW B fr n) = q := ⟨_, rfl⟩
  rw [hrc] at hfew
  rw [hS] at hfine hall
  rw [hB'] at hdisk hall
  rw [hS, hB']
  have HE := Lib.hid (And.intro hrc (And.intro hS hB'))
  have HFn := Lib.hid (And.intro hfine (And.intro hdisk hall))
  clear hb hd hx n1 n2 i1 i2 ap hB tab hrc hS hB' hfine hdisk hall
  go_enter Tryd.func50, Tryd.ntmps50
  go_wp2_with (first
    | (go_at_call 38; refine (log_Open_yes w HD.out HFi.out HN.out.1 h1 h2 HT.out).mono ?_; intro e w1 hg; rw [HE.out.1, HE.out.2.1, HE.out.2.2] at hg; obtain ⟨l, R1, E1, a1, c1, v1, rfl, F1, g1, g2, g3, g4, g5, g6⟩ := hg; have hb1 := HB.out.upd g2 hbp; have d1 : w1.cell? ⟨p, 1, none⟩ = some (.pointer (some ⟨x, 0, none⟩)) := hb1.cell 1; have HB1 := Lib.hid hb1; have HL1 := Lib.hid g1; have HU1 := Lib.hid g2; have HF1 := Lib.hid g3; have HRw1 := Lib.hid g4; have HR1 := Lib.hid g5; have HE1 := Lib.hid g6; clear g1 g2 g3 g4 g5 g6 hb1)
    | (go_at_call 83; refine (ref3_Open_yes w1 (HX.out.upd HU1.out (fun k f g => HAp.out k g f)) HFi.out HN.out.2 h1 h2 (Nat.lt_of_lt_of_le hsz HU1.out.size)).mono ?_; intro e w2 hg; rw [HE.out.1, HE.out.2.1, HE.out.2.2] at hg; obtain ⟨m, R2, E2, a2, c2, v2, rfl, F2, g1, g2, g3, g4, g5, g6⟩ := hg; have hb2 := HB1.out.upd g2 hxp; have d2 : w2.cell? ⟨p, 2, none⟩ = some (.pointer lv) := hb2.cell 2; have d3 : w2.cell? ⟨p, 3, none⟩ = some (.pointer mv) := hb2.cell 3; have f2 := hb2.frozen 2; have f3 := hb2.frozen 3; have HB2 := Lib.hid hb2; have HM2 := Lib.hid g1; have HU2 := Lib.hid g2; have HF2 := Lib.hid g3; have HRw2 := Lib.hid g4; have HR2 := Lib.hid g5; have HE2 := Lib.hid g6; clear g1 g2 g3 g4 g5 g6 hb2))
  obtain ⟨W, hW⟩ : ∃ W, (w2.setCell ⟨p, 2, none⟩ (.pointer (some ⟨l, 0, none⟩))).setCell ⟨p, 3, none⟩ (.pointer (some ⟨m, 0, none⟩)) = W := ⟨_, rfl⟩
  rw [hW]
  have z1 := HU1.out.size
  have z2 := HU2.out.size
  have one : Upd (One p) w2 W := by
    rw [← hW]
    exact ((Upd.refl (One p) w2).setCell (p := ⟨p, 2, none⟩) (.inl rfl) _).setCell (p := ⟨p, 3, none⟩) (.inl rfl) _
  have zW : W.heap.size = w2.heap.size := by rw [← hW, size_setCell, size_setCell]
  have hbW : Blk W p 90 (pairCells d x (some ⟨l, 0, none⟩) (some ⟨m, 0, none⟩)) := by
    rw [← hW]
    exact (HB2.out.set 2 (.pointer (some ⟨l, 0, none⟩))).set 3 (.pointer (some ⟨m, 0, none⟩))
  have hF1p : ∀ k, F1 k → k ≠ p ∧ ¬ FX k := fun k hk => by
    rcases HF1.out k hk with q | q
    · exact ⟨(HI1.out k q).2, HAp.out k q⟩
    · exact ⟨by have := q.1; omega, fun f => by have := (HI2.out k f).1; have := q.1; omega⟩
  have hF2p : ∀ k, F2 k → k ≠ p ∧ ¬ F1 k := fun k hk => by
    rcases HF2.out k hk with q | q
    · refine ⟨(HI2.out k q).2, fun f => (hF1p k f).2 q⟩
    · refine ⟨by have := q.1; omega, fun f => ?_⟩
      have := q.1
      rcases HF1.out k f with r | r
      · have := (HI1.out k r).1; omega
      · have := r.2; omega
  have hboth : Both W p d x l m F1 F2 S B' :=
    ⟨hbW, (HL1.out.upd HU2.out (fun k f g => (hF1p k f).2 g)).upd one (fun k f e => (hF1p k f).1 e), HM2.out.upd one (fun k f e => (hF2p k f).1 e), fun k hk => ⟨by
      rw [zW]
      rcases HF1.out k hk with q | q
      · have := (HI1.out k q).1; omega
      · have := q.2; omega, (hF1p k hk).1⟩, fun k hk => ⟨by
      rw [zW]
      rcases HF2.out k hk with q | q
      · have := (HI2.out k q).1; omega
      · exact q.2, (hF2p k hk).1⟩, fun k f g => (hF2p k g).2 f, HFn.out.1, HFn.out.2.1, HFn.out.2.2⟩
  have hnew1 : ∀ k, Fr w w1 k → ¬ FX k ∧ k ≠ p := fun k hk => ⟨fun f => by have := (HI2.out k f).1; have := hk.1; omega, by have := hk.1; omega⟩
  have hrw1 := (HRw1.out.far HU2.out (fun k hk f => (hnew1 k (HR1.out k hk).1).1 f) (fun k hk f => (hnew1 k (HE1.out k hk).1).1 f)).far one (fun k hk e => (hnew1 k (HR1.out k hk).1).2 e) (fun k hk e => (hnew1 k (HE1.out k hk).1).2 e)
  have hrw2 := HRw2.out.far one (fun k hk e => by have := (HR2.out k hk).1.1; rw [show k = p from e] at this; omega) (fun k hk e => by have := (HE2.out k hk).1.1; rw [show k = p from e] at this; omega)
  have hup : Upd (fun k => FD k ∨ FX k ∨ k = p) w W := ((HU1.out.mono (fun k hk => .inl hk)).trans (HU2.out.mono (fun k hk => .inr (.inl hk))) (fun k hk _ => hk)).trans one (fun k hk _ => .inr (.inr hk))
  have HBo := Lib.hid hboth
  have HW1 := Lib.hid hrw1
  have HW2 := Lib.hid hrw2
  have HUp := Lib.hid hup
  have HZW := Lib.hid zW
  have e0 : W.cell? ⟨p, 0, none⟩ = some (.pointer (some ⟨d, 0, none⟩)) := hbW.cell 0
  have e1 : W.cell? ⟨p, 1, none⟩ = some (.pointer (some ⟨x, 0, none⟩)) := hbW.cell 1
  have C := Lib.hid (And.intro e0 e1)
  have uu := Lib.hid ((Upd.refl Nil W).drew)
  clear hW one hbW hboth hrw1 hrw2 hup d1 d2 d3 f2 f3 c0 hF1p hF2p hnew1 zW
  go_region_held3 (fun Z => Z.cell? ⟨p, 0, none⟩ = some (.pointer (some ⟨d, 0, none⟩)) ∧ Z.cell? ⟨p, 1, none⟩ = some (.pointer (some ⟨x, 0, none⟩))) (first | exact ⟨uu.out.cell C.out.1 (fun f => f), uu.out.cell C.out.2 (fun f => f)⟩ | exact ⟨e0, e1⟩)
    (first
      | (go_at_call 84; refine (equalFunc _ c1 c2 (HW1.out.own.row.keep uu.out) (HW2.out.own.row.keep uu.out) (HW1.out.all.mono (fun v x h => h.keep uu.out)) (HW2.out.all.mono (fun v x h => h.keep uu.out)) hfew hfew).mono ?_; intro e w' hg; rw [decide_eq_true (Eq.refl recs)] at hg; obtain ⟨rfl, rfl⟩ := hg)
      | (go_at_call 85; have hbo := HBo.out.keep uu.out; obtain ⟨_, ⟨_, GL, GD, _, _, _, k1⟩, ⟨_, GM, GX, _, _, _, k2⟩, _⟩ := hbo; refine (sameDisks _ k1 k2 HFn.out.2.1 (Nat.zero_le _)).mono ?_; rintro e w3 ⟨rfl, g⟩; have uu := Lib.hid (uu.out.trans g (fun _ f _ => f)); clear g k1 k2))
  all_goals go_wp2
  all_goals go_ret
  all_goals
    have z3 := uu.out.size
    have zw := HZW.out
    refine ⟨rfl, l, m, F1, F2, HBo.out.keep uu.out, HUp.out.trans uu.out (fun _ f _ => f.elim), fun k hk => ?_, fun k hk => ?_⟩
    · rcases HF1.out k hk with q | q
      · exact .inl q
      · exact .inr ⟨q.1, by have := q.2; omega⟩
    · rcases HF2.out k hk with q | q
      · exact .inl q
      · exact .inr ⟨by have := q.1; omega, by have := q.2; omega⟩

set_option maxRecDepth 100000 in
set_option maxHeartbeats 16000000 in
theorem pair_open_no (w : World) {p d x : Nat} {lv mv : Option Addr} {FD FX : Nat → Prop} {B : List (List UInt8)} (h : Disks2 w p d x lv mv FD FX B) {i j : Int} (hbad : BadPlace B.length i j) :
    Calls Tryd.prog 50 #[.pointer (some ⟨p, 0, none⟩), .int .i64 i, .int .i64 j] w fun e w' => e = .returned (.bool true) ∧ w'.cell? ⟨p, 3, none⟩ = some (.pointer none) ∧ Upd (One p) w w' := by
  obtain ⟨hb, hd, hx, n1, n2, i1, i2, ap, hB⟩ := h
  have H1 := Lib.hid (log_Open_no w hd hB hbad)
  have H2 := Lib.hid (ref3_Open_no w hx hB hbad)
  obtain ⟨W, hW⟩ : ∃ W, (w.setCell ⟨p, 2, none⟩ (.pointer none)).setCell ⟨p, 3, none⟩ (.pointer none) = W := ⟨_, rfl⟩
  have one : Upd (One p) w W := by
    rw [← hW]
    exact ((Upd.refl (One p) w).setCell (p := ⟨p, 2, none⟩) (.inl rfl) _).setCell (p := ⟨p, 3, none⟩) (.inl rfl) _
  have hbW : Blk W p 90 (pairCells d x none none) := by
    rw [← hW]
    exact (hb.set 2 (.pointer none)).set 3 (.pointer none)
  have c0 : w.cell? ⟨p, 0, none⟩ = some (.pointer (some ⟨d, 0, none⟩)) := hb.cell 0
  have c1 : w.cell? ⟨p, 1, none⟩ = some (.pointer (some ⟨x, 0, none⟩)) := hb.cell 1
  have c2 : w.cell? ⟨p, 2, none⟩ = some (.pointer lv) := hb.cell 2
  have c3 : w.cell? ⟨p, 3, none⟩ = some (.pointer mv) := hb.cell 3
  have f2 := hb.frozen 2
  have f3 := hb.frozen 3
  have HD := Lib.hid (hd.upd one (fun k f e => (i1 k f).2 e))
  have HX := Lib.hid (hx.upd one (fun k f e => (i2 k f).2 e))
  have HO := Lib.hid one
  have HBW := Lib.hid hbW
  have HFi := Lib.hid hB
  have HWe := Lib.hid hW
  have e0 : W.cell? ⟨p, 0, none⟩ = some (.pointer (some ⟨d, 0, none⟩)) := hbW.cell 0
  have e1 : W.cell? ⟨p, 1, none⟩ = some (.pointer (some ⟨x, 0, none⟩)) := hbW.cell 1
  have C := Lib.hid (And.intro e0 e1)
  clear hb hd hx n1 n2 i1 i2 ap hB hbad one hbW hW
  go_enter Tryd.func50, Tryd.ntmps50
  go_wp2_with (first
    | (go_at_call 38; refine H1.out.mono ?_; rintro e w' ⟨rfl, rfl⟩)
    | (go_at_call 83; refine H2.out.mono ?_; rintro e w' ⟨rfl, rfl⟩))
  rw [HWe.out]
  have uu := Lib.hid ((Upd.refl Nil W).drew)
  clear c0 c1 c2 c3 f2 f3
  go_region_held3 (fun Z => Z.cell? ⟨p, 0, none⟩ = some (.pointer (some ⟨d, 0, none⟩)) ∧ Z.cell? ⟨p, 1, none⟩ = some (.pointer (some ⟨x, 0, none⟩))) (first | exact ⟨uu.out.cell C.out.1 (fun f => f), uu.out.cell C.out.2 (fun f => f)⟩ | exact ⟨e0, e1⟩)
    (first
      | (go_at_call 84; refine (equalFunc (F := Nil) (G := Nil) (E := Nil) (E' := Nil) _ 0 0 (vs := []) (us := []) (xss := []) (yss := []) (fun h => absurd rfl h) (fun h => absurd rfl h) trivial trivial (Nat.zero_le _) (Nat.zero_le _)).mono ?_; intro e w' hg; rw [decide_eq_true (Eq.refl ([] : List (List UInt8)))] at hg; obtain ⟨rfl, rfl⟩ := hg)
      | (go_at_call 85; refine (sameDisks _ (HD.out.upd uu.out (fun _ _ f => f)) (HX.out.upd uu.out (fun _ _ f => f)) HFi.out (Nat.zero_le _)).mono ?_; rintro e w3 ⟨rfl, g⟩; have uu := Lib.hid (uu.out.trans g (fun _ f _ => f)); clear g))
  all_goals go_wp2
  all_goals go_ret
  all_goals exact ⟨rfl, uu.out.cell (HBW.out.cell 3) (fun f => f), HO.out.trans uu.out (fun _ f _ => f.elim)⟩
end Go.Proofs.YtbaombnnagidcaaDoor

namespace Go.Proofs.YtbaombnnagidcaaDoor
open Go.RowKit

/-- both logs, on the way from a world to another -/
structure LR (w0 w : World) (l d m x : Nat) (G1 G2 F1 F2 : Nat → Prop) (S1 : LogS) (B1 : List (List UInt8)) (S2 : LogS) (B2 : List (List UInt8)) : Prop where
  prog : LogLD F1 w l d S1 B1 []
  ref : RefLD F2 w m x S2 B2 []
  in1 : ∀ k, F1 k → k < w.heap.size
  in2 : ∀ k, F2 k → k < w.heap.size
  apart : ∀ k, F1 k → ¬ F2 k
  up : Upd (fun k => G1 k ∨ G2 k) w0 w
  f1 : ∀ k, F1 k → G1 k ∨ Fr w0 w k
  f2 : ∀ k, F2 k → G2 k ∨ Fr w0 w k
namespace LR
variable {w0 w w' : World} {l d m x : Nat} {G1 G2 F1 F2 F' : Nat → Prop} {S1 S2 S' : LogS} {B1 B2 B' : List (List UInt8)}
theorem keep (h : LR w0 w l d m x G1 G2 F1 F2 S1 B1 S2 B2) (u : Upd Nil w w') : LR w0 w' l d m x G1 G2 F1 F2 S1 B1 S2 B2 :=
  ⟨h.prog.keep u, h.ref.keep u, fun k hk => Nat.lt_of_lt_of_le (h.in1 k hk) u.size, fun k hk => Nat.lt_of_lt_of_le (h.in2 k hk) u.size, h.apart, h.up.trans u (fun _ f _ => f.elim), fun k hk => (h.f1 k hk).imp id (Fr.on u.size k), fun k hk => (h.f2 k hk).imp id (Fr.on u.size k)⟩
/-- cells elsewhere turn -/
theorem past {G : Nat → Prop} (h : LR w0 w l d m x G1 G2 F1 F2 S1 B1 S2 B2) (u : Upd G w w') (h1 : ∀ k, F1 k → ¬ G k) (h2 : ∀ k, F2 k → ¬ G k) (h3 : ∀ k, G k → w0.heap.size ≤ k) : LR w0 w' l d m x G1 G2 F1 F2 S1 B1 S2 B2 :=
  ⟨h.prog.upd u h1, h.ref.upd u h2, fun k hk => Nat.lt_of_lt_of_le (h.in1 k hk) u.size, fun k hk => Nat.lt_of_lt_of_le (h.in2 k hk) u.size, h.apart, h.up.trans u (fun k hk hlt => absurd (h3 k hk) (Nat.not_le_of_lt hlt)), fun k hk => (h.f1 k hk).imp id (Fr.on u.size k), fun k hk => (h.f2 k hk).imp id (Fr.on u.size k)⟩
theorem stepProg (h : LR w0 w l d m x G1 G2 F1 F2 S1 B1 S2 B2) (hb : LogLD F' w' l d S' B' []) (u : Upd F1 w w') (hF : ∀ k, F' k → F1 k ∨ Fr w w' k) (hin : ∀ k, F' k → k < w'.heap.size) : LR w0 w' l d m x G1 G2 F' F2 S' B' S2 B2 := by
  have hz := u.size
  have h0 := h.up.size
  refine ⟨hb, h.ref.upd u (fun k f g => h.apart k g f), hin, fun k hk => Nat.lt_of_lt_of_le (h.in2 k hk) hz, fun k hk h2 => ?_, h.up.trans u (fun k hk hlt => ?_), fun k hk => ?_, fun k hk => (h.f2 k hk).imp id (Fr.on hz k)⟩
  · rcases hF k hk with q | q
    · exact h.apart k q h2
    · have := h.in2 k h2; have := q.1; omega
  · rcases h.f1 k hk with q | q
    · exact .inl q
    · have := q.1; omega
  · rcases hF k hk with q | q
    · exact (h.f1 k q).imp id (Fr.on hz k)
    · exact .inr (Fr.back h0 k q)
theorem stepRef (h : LR w0 w l d m x G1 G2 F1 F2 S1 B1 S2 B2) (hb : RefLD F' w' m x S' B' []) (u : Upd F2 w w') (hF : ∀ k, F' k → F2 k ∨ Fr w w' k) (hin : ∀ k, F' k → k < w'.heap.size) : LR w0 w' l d m x G1 G2 F1 F' S1 B1 S' B' := by
  have hz := u.size
  have h0 := h.up.size
  refine ⟨h.prog.upd u (fun k f g => h.apart k f g), hb, fun k hk => Nat.lt_of_lt_of_le (h.in1 k hk) hz, hin, fun k h1 hk => ?_, h.up.trans u (fun k hk hlt => ?_), fun k hk => (h.f1 k hk).imp id (Fr.on hz k), fun k hk => ?_⟩
  · rcases hF k hk with q | q
    · exact h.apart k h1 q
    · have := h.in1 k h1; have := q.1; omega
  · rcases h.f2 k hk with q | q
    · exact .inr q
    · have := q.1; omega
  · rcases hF k hk with q | q
    · exact (h.f2 k q).imp id (Fr.on hz k)
    · exact .inr (Fr.back h0 k q)
/-- a call's blocks lie in the heap, where those that it had do -/
theorem inP (h : LR w0 w l d m x G1 G2 F1 F2 S1 B1 S2 B2) (u : w.heap.size ≤ w'.heap.size) (hF : ∀ k, F' k → F1 k ∨ Fr w w' k) : ∀ k, F' k → k < w'.heap.size := fun k hk => by
  rcases hF k hk with q | q
  · have := h.in1 k q; omega
  · exact q.2
theorem inR (h : LR w0 w l d m x G1 G2 F1 F2 S1 B1 S2 B2) (u : w.heap.size ≤ w'.heap.size) (hF : ∀ k, F' k → F2 k ∨ Fr w w' k) : ∀ k, F' k → k < w'.heap.size := fun k hk => by
  rcases hF k hk with q | q
  · have := h.in2 k q; omega
  · exact q.2
theorem gotP {e : Ending} {v : Value} (h : LR w0 w l d m x G1 G2 F1 F2 S1 B1 S2 B2) (g : LogLDGot F1 w l d v S' B' [] e w') : e = .returned v ∧ ∃ F', LR w0 w' l d m x G1 G2 F' F2 S' B' S2 B2 := by
  obtain ⟨rfl, F', g1, g2, g3⟩ := g
  exact ⟨rfl, F', h.stepProg g1 g2 g3 (h.inP g2.size g3)⟩
theorem gotR {e : Ending} {v : Value} (h : LR w0 w l d m x G1 G2 F1 F2 S1 B1 S2 B2) (g : RefLDGot F2 w m x v S' B' [] e w') : e = .returned v ∧ ∃ F', LR w0 w' l d m x G1 G2 F1 F' S1 B1 S' B' := by
  obtain ⟨rfl, F', g1, g2, g3⟩ := g
  exact ⟨rfl, F', h.stepRef g1 g2 g3 (h.inR g2.size g3)⟩
end LR
theorem Both.start {w w' : World} {p d x l m : Nat} {F1 F2 : Nat → Prop} {S : LogS} {B : List (List UInt8)} (h : Both w p d x l m F1 F2 S B) (u : Upd Nil w w') : LR w w' l d m x F1 F2 F1 F2 S B S B :=
  ⟨h.prog.keep u, h.ref.keep u, fun k hk => Nat.lt_of_lt_of_le (h.in1 k hk).1 u.size, fun k hk => Nat.lt_of_lt_of_le (h.in2 k hk).1 u.size, h.apart, u.ofNil, fun _ hk => .inl hk, fun _ hk => .inl hk⟩
/-- on the way both have the same -/
theorem Both.on {w w' : World} {p d x l m : Nat} {F1 F2 G1 G2 : Nat → Prop} {S S' : LogS} {B B' : List (List UInt8)} (h : Both w p d x l m G1 G2 S B) (r : LR w w' l d m x G1 G2 F1 F2 S' B' S' B') (hf : LFine S') (hB : Fine B' []) (ha : S'.fr + S'.sectors ≤ B'.length) : Both w' p d x l m F1 F2 S' B' := by
  have hp := h.blk.lt
  refine ⟨h.blk.upd r.up (fun f => f.elim (fun q => (h.in1 p q).2 rfl) (fun q => (h.in2 p q).2 rfl)), r.prog, r.ref, fun k hk => ⟨r.in1 k hk, ?_⟩, fun k hk => ⟨r.in2 k hk, ?_⟩, r.apart, hf, hB, ha⟩
  · rcases r.f1 k hk with q | q
    · exact (h.in1 k q).2
    · have := q.1; omega
  · rcases r.f2 k hk with q | q
    · exact (h.in2 k q).2
    · have := q.1; omega
/-- what a call of the law's pair leaves -/
def DoesGot (w : World) (p d x : Nat) (G1 G2 : Nat → Prop) (S : LogS) (B : List (List UInt8)) (e : Ending) (w' : World) : Prop :=
  e = .returned (.bool true) ∧ ∃ (l m : Nat) (F1 F2 : Nat → Prop) (S' : LogS) (B' : List (List UInt8)), Both w' p d x l m F1 F2 S' B' ∧ S'.fr = S.fr ∧ S'.sectors = S.sectors ∧ B'.length = B.length ∧ Upd (fun k => G1 k ∨ G2 k ∨ k = p) w w' ∧ (∀ k, F1 k → G1 k ∨ Fr w w' k) ∧ ∀ k, F2 k → G2 k ∨ Fr w w' k
theorem DoesGot.of {w w' : World} {p d x l m : Nat} {F1 F2 G1 G2 : Nat → Prop} {S S' : LogS} {B B' : List (List UInt8)} (h : Both w p d x l m G1 G2 S B) (r : LR w w' l d m x G1 G2 F1 F2 S' B' S' B') (hf : LFine S') (hB : Fine B' []) (h1 : S'.fr = S.fr) (h2 : S'.sectors = S.sectors) (h3 : B'.length = B.length) : DoesGot w p d x G1 G2 S B (.returned (.bool true)) w' :=
  ⟨rfl, l, m, F1, F2, S', B', h.on r hf hB (by rw [h1, h2, h3]; exact h.all), h1, h2, h3, r.up.mono (fun k hk => hk.elim .inl (fun q => .inr (.inl q))), r.f1, r.f2⟩
end Go.Proofs.YtbaombnnagidcaaDoor
