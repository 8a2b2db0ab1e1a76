/- LogLives: whatever is done to a log, over any image, it answers and writes what the document says; for every image, every two integers and every list of calls, no condition but the row's own. -/
import Derived.Test.YtbaombnnagidcaaDoorZL26
import Derived.Test.YtbaombnnagidcaaDoorZL27
import Derived.Test.YtbaombnnagidcaaDoorZL19
import Derived.Test.YtbaombnnagidcaaDoorZL01
import Derived.Test.YtbaombnnagidcaaDoorCards
import Derived.Test.YtbaombnnagidcaaDoorTie
import Derived.Lib.LaidTab

namespace Go.Proofs.YtbaombnnagidcaaDoor
open Go.RowKit

theorem DoesGot.back {w w0 w' : World} {p d x : Nat} {G1 G2 : Nat → Prop} {S : LogS} {B : List (List UInt8)} {e : Ending} (u : Upd Nil w w0) (h : DoesGot w0 p d x G1 G2 S B e w') : DoesGot w p d x G1 G2 S B e w' := by
  obtain ⟨he, l, m, F1, F2, S', B', h1, h2, h3, h4, h5, h6, h7⟩ := h
  exact ⟨he, l, m, F1, F2, S', B', h1, h2, h3, h4, u.ofNil.trans h5 (fun _ hk _ => hk), fun k hk => (h6 k hk).imp id (Fr.back u.size k), fun k hk => (h7 k hk).imp id (Fr.back u.size k)⟩
theorem Both.disks {w : World} {p d x l m : Nat} {F1 F2 : Nat → Prop} {S : LogS} {B : List (List UInt8)} (h : Both w p d x l m F1 F2 S B) : ∃ FD FX, Disks2 w p d x (some ⟨l, 0, none⟩) (some ⟨m, 0, none⟩) FD FX B ∧ (∀ k, FD k → F1 k) ∧ ∀ k, FX k → F2 k := by
  obtain ⟨hb, ⟨n1, FL, FD, _, hD, _, hd⟩, ⟨n2, FM, FX, _, hX, _, hx⟩, i1, i2, ap, _, hB, _⟩ := h
  exact ⟨FD, FX, ⟨hb, hd, hx, fun f => n1 (hD 0 f).1, fun f => n2 (hX 0 f).1, fun k f => i1 k (hD k f).1, fun k f => i2 k (hX k f).1, fun k f g => ap k (hD k f).1 (hX k g).1, hB⟩, fun k f => (hD k f).1, fun k f => (hX k f).1⟩

/-- a copy that was made ahead of both is spoilt: neither log has its blocks -/
theorem spoilt {W0 w1 w3 w4 : World} {p d x l m : Nat} {G1 G2 F1 F2 : Nat → Prop} {S S1 S2 : LogS} {B B1 B2 : List (List UInt8)} (_h : Both w1 p d x l m G1 G2 S B) (u : Upd Nil W0 w1) (r : LR w1 w3 l d m x G1 G2 F1 F2 S1 B1 S2 B2) (hin : (∀ k, G1 k → k < W0.heap.size) ∧ ∀ k, G2 k → k < W0.heap.size) (g : Upd (Fr W0 w1) w3 w4) : LR W0 w4 l d m x G1 G2 F1 F2 S1 B1 S2 B2 := by
  have z := r.up.size
  have zg := g.size
  have zu := u.size
  refine ⟨r.prog.upd g (fun k f q => ?_), r.ref.upd g (fun k f q => ?_), fun k hk => Nat.lt_of_lt_of_le (r.in1 k hk) zg, fun k hk => Nat.lt_of_lt_of_le (r.in2 k hk) zg, r.apart, (u.ofNil.trans r.up (fun _ hk _ => hk)).trans g (fun k hk hlt => absurd hk.1 (Nat.not_le_of_lt hlt)), fun k hk => ?_, fun k hk => ?_⟩
  · rcases r.f1 k f with a | a
    · have := hin.1 k a; have := q.1; omega
    · have := a.1; have := q.2; omega
  · rcases r.f2 k f with a | a
    · have := hin.2 k a; have := q.1; omega
    · have := a.1; have := q.2; omega
  · rcases r.f1 k hk with a | a
    · exact .inl a
    · exact .inr ⟨by have := a.1; omega, by have := a.2; omega⟩
  · rcases r.f2 k hk with a | a
    · exact .inl a
    · exact .inr ⟨by have := a.1; omega, by have := a.2; omega⟩

set_option maxRecDepth 100000 in
set_option maxHeartbeats 16000000 in
theorem pair_does {G : Nat → Prop} (w : World) {p d x l m : Nat} {F1 F2 : Nat → Prop} {S : LogS} {B : List (List UInt8)} (h : Both w p d x l m F1 F2 S B) {fr n : Nat} (hfr : S.fr = fr) (hn : S.sectors = n) (op : Int) {ab : Option Addr} (cb : Nat) {xs : List UInt8} (hb : Row G w ab (bvs xs)) (hx : xs.length ≤ 140737488355328)
    (hG1 : ∀ k, G k → ¬ F1 k) (hG2 : ∀ k, G k → ¬ F2 k) (tab : Tab w) :
    Calls Tryd.prog 51 #[.pointer (some ⟨p, 0, none⟩), .agg #[.int .i64 op, .slice ab xs.length cb], .int .i64 (fr : Int), .int .i64 (n : Int)] w (DoesGot w p d x F1 F2 S B) := by
  subst hfr
  subst hn
  obtain ⟨W0, hW0⟩ : ∃ W0, w.alloc (.cells #[.int .i64 op, .slice ab xs.length cb] 92) = W0 := ⟨_, rfl⟩
  obtain ⟨bx, hbx⟩ : ∃ q, w.heap.size = q := ⟨_, rfl⟩
  have al : Upd Nil w W0 := by rw [← hW0]; exact (Upd.refl Nil w).alloc _
  have hbox : Blk W0 bx 92 #[.int .i64 op, .slice ab xs.length cb] := by rw [← hW0, ← hbx]; exact Blk.new w _ _
  have hz0 : W0.heap.size = bx + 1 := by rw [← hW0, ← hbx]; simp
  have hB0 := h.keep al
  have hbG : ¬ (F1 bx ∨ F2 bx) := by
    rintro (f | f)
    · have := (h.in1 _ f).1; omega
    · have := (h.in2 _ f).1; omega
  have hpG : ¬ (F1 p ∨ F2 p) := fun f => f.elim (fun q => (h.in1 p q).2 rfl) (fun q => (h.in2 p q).2 rfl)
  have h0G : ¬ (F1 0 ∨ F2 0) := fun f => f.elim h.prog.1 h.ref.1
  have c2 : W0.cell? ⟨p, 2, none⟩ = some (.pointer (some ⟨l, 0, none⟩)) := hB0.blk.cell 2
  have c3 : W0.cell? ⟨p, 3, none⟩ = some (.pointer (some ⟨m, 0, none⟩)) := hB0.blk.cell 3
  have b0 : W0.cell? ⟨bx, 0, none⟩ = some (.int .i64 op) := hbox.cell 0
  have b1 : W0.cell? ⟨bx, 1, none⟩ = some (.slice ab xs.length cb) := hbox.cell 1
  have HAl := Lib.hid al
  have HBo := Lib.hid hB0
  have HBx := Lib.hid hbox
  have HbG := Lib.hid hbG
  have HpG := Lib.hid hpG
  have H0G := Lib.hid h0G
  have HX := Lib.hid (hb.keep al)
  have HG1 := Lib.hid hG1
  have HG2 := Lib.hid hG2
  have HT := Lib.hid (tab.upd al (fun f => f))
  have HFi := Lib.hid (And.intro h.fine (And.intro h.disk h.all))
  have HIn := Lib.hid (And.intro h.in1 h.in2)
  have C := Lib.hid (And.intro c2 (And.intro c3 b1))
  have HLen := Lib.hid hx
  have hx2 : xs.length ≤ 9223372036854775807 := by omega
  have HZ := Lib.hid (And.intro hz0 hbx)
  clear h al hbox hB0 hbG hpG h0G hb hG1 hG2 tab hz0 hx
  have hkind := kind3 op
  go_enter Tryd.func51, Tryd.ntmps51
  rcases hkind with hk | hk | hk | hk | hk
  · have HIn0 : Hid ((∀ k, F1 k → k < W0.heap.size) ∧ ∀ k, F2 k → k < W0.heap.size) := Lib.hid ⟨fun k f => by have := (HIn.out.1 k f).1; have := HZ.out; omega, fun k f => by have := (HIn.out.2 k f).1; have := HZ.out; omega⟩
    have hf2 : LFine (appendS S xs) := HFi.out.1.append xs
    have ef : (appendS S xs).fr = S.fr := by unfold appendS; split <;> rfl
    have es : (appendS S xs).sectors = S.sectors := by unfold appendS; split <;> rfl
    have ha2 : (appendS S xs).fr + (appendS S xs).sectors ≤ B.length := by rw [ef, es]; exact HFi.out.2.2
    have HA := Lib.hid (And.intro hf2 (And.intro ef (And.intro es ha2)))
    obtain ⟨an, han⟩ : ∃ q, appendN S xs = q := ⟨_, rfl⟩
    obtain ⟨ac, hac⟩ : ∃ q, appendC S xs = q := ⟨_, rfl⟩
    have HNC := Lib.hid (And.intro han hac)
    clear hf2 ef es ha2 han hac
    go_wp2_with (first
      | (go_at_call 13; refine (bytesClone _ cb HX.out HLen.out).mono ?_; rintro e w1 ⟨a1, c1, rfl, g1, g2⟩; have hbo := HBo.out.keep g2; have LRc := Lib.hid (hbo.start (Upd.refl Nil w1)); have HO1 := Lib.hid g1; have HU1 := Lib.hid g2; have k2 := g2.cell C.out.1 (fun f => f); have k3 := g2.cell C.out.2.1 (fun f => f); have kb := g2.cell C.out.2.2 (fun f => f); have HBo1 := Lib.hid hbo; have CK := Lib.hid (And.intro k3 kb); clear g1 g2 hbo c2 c3 b0 b1 hW0 hbx)
      | (go_at_call 41; refine (log_Append_LD _ LRc.out.prog HFi.out.1 c1 HO1.out.row HLen.out).mono ?_; intro e w2 hg; rw [HNC.out.1, HNC.out.2] at hg; obtain ⟨rfl, Fa, g1, g2, g3⟩ := hg; have HO2 := Lib.hid (HO1.out.upd g2 (fun k hk f => by have := (HIn.out.1 k f).1; have := hk.1; have := HZ.out; omega)); have LRc := Lib.hid (LRc.out.stepProg g1 g2 g3 (LRc.out.inP g2.size g3)); have n3 := LRc.out.up.cell CK.out.1 HpG.out; have nb := LRc.out.up.cell CK.out.2 HbG.out; clear g1 g2 g3 k2 k3 kb))
    have HX2 := Lib.hid ((HX.out.keep HU1.out).upd LRc.out.up (fun k hk f => f.elim (HG1.out k hk) (HG2.out k hk)))
    have LRd := Lib.hid (LRc.out.keep (Upd.refl Nil w2).drew)
    go_region_held3 (fun W => W.cell? ⟨p, 3, none⟩ = some (.pointer (some ⟨m, 0, none⟩)) ∧ W.cell? ⟨bx, 1, none⟩ = some (.slice ab xs.length cb)) (first | exact ⟨o3, ob⟩ | exact ⟨n3, nb⟩)
      (first
        | (go_at_call 86; refine (ref3_Append_LD _ LRd.out.ref HFi.out.1 cb HX2.out.drew HLen.out).mono ?_; intro e w3 hg; rw [HNC.out.1, HNC.out.2] at hg; obtain ⟨rfl, Fb, g1, g2, g3⟩ := hg; have HO3 := Lib.hid (HO2.out.drew.upd g2 (fun k hk f => by have := (HIn.out.2 k f).1; have := hk.1; have := HZ.out; omega)); have LRc := Lib.hid (LRd.out.stepRef g1 g2 g3 (LRd.out.inR g2.size g3)); have o3 := LRc.out.up.cell CK.out.1 HpG.out; have ob := LRc.out.up.cell CK.out.2 HbG.out; clear g1 g2 g3))
    all_goals go_wp2_with (first
      | (go_at_call 16; refine (bytesEqual_at _ c1 cb HO3.out.row ((HX.out.keep HU1.out).upd LRc.out.up (fun k hk f => f.elim (HG1.out k hk) (HG2.out k hk))) rfl rfl).mono ?_; intro e w' hg; rw [decide_eq_true (Eq.refl xs)] at hg; obtain ⟨rfl, rfl⟩ := hg)
      | (go_at_call 87; refine (spoil _ HO3.out).mono ?_; rintro e w4 ⟨rfl, g⟩; have LRc := Lib.hid (spoilt HBo1.out HU1.out LRc.out HIn0.out g); clear g)
      | (go_at_call 52; refine (pair_same _ (HBo.out.on LRc.out HA.out.1 HFi.out.2.1 HA.out.2.2.2)).mono ?_; rintro e wz ⟨rfl, g⟩; have LRc := Lib.hid (LRc.out.keep g); clear g))
    all_goals go_ret
    all_goals exact (DoesGot.of HBo.out LRc.out HA.out.1 HFi.out.2.1 HA.out.2.1 HA.out.2.2.1 rfl).back HAl.out
  · have HIn0 : Hid ((∀ k, F1 k → k < W0.heap.size) ∧ ∀ k, F2 k → k < W0.heap.size) := Lib.hid ⟨fun k f => by have := (HIn.out.1 k f).1; have := HZ.out; omega, fun k f => by have := (HIn.out.2 k f).1; have := HZ.out; omega⟩
    have hf2 : LFine (appendS S xs) := HFi.out.1.append xs
    have ef : (appendS S xs).fr = S.fr := by unfold appendS; split <;> rfl
    have es : (appendS S xs).sectors = S.sectors := by unfold appendS; split <;> rfl
    have ha2 : (appendS S xs).fr + (appendS S xs).sectors ≤ B.length := by rw [ef, es]; exact HFi.out.2.2
    have HA := Lib.hid (And.intro hf2 (And.intro ef (And.intro es ha2)))
    obtain ⟨an, han⟩ : ∃ q, appendN S xs = q := ⟨_, rfl⟩
    obtain ⟨ac, hac⟩ : ∃ q, appendC S xs = q := ⟨_, rfl⟩
    have HNC := Lib.hid (And.intro han hac)
    clear hf2 ef es ha2 han hac
    go_wp2_with (first
      | (go_at_call 13; refine (bytesClone _ cb HX.out HLen.out).mono ?_; rintro e w1 ⟨a1, c1, rfl, g1, g2⟩; have hbo := HBo.out.keep g2; have LRc := Lib.hid (hbo.start (Upd.refl Nil w1)); have HO1 := Lib.hid g1; have HU1 := Lib.hid g2; have k2 := g2.cell C.out.1 (fun f => f); have k3 := g2.cell C.out.2.1 (fun f => f); have kb := g2.cell C.out.2.2 (fun f => f); have HBo1 := Lib.hid hbo; have CK := Lib.hid (And.intro k3 kb); clear g1 g2 hbo c2 c3 b0 b1 hW0 hbx)
      | (go_at_call 41; refine (log_Append_LD _ LRc.out.prog HFi.out.1 c1 HO1.out.row HLen.out).mono ?_; intro e w2 hg; rw [HNC.out.1, HNC.out.2] at hg; obtain ⟨rfl, Fa, g1, g2, g3⟩ := hg; have HO2 := Lib.hid (HO1.out.upd g2 (fun k hk f => by have := (HIn.out.1 k f).1; have := hk.1; have := HZ.out; omega)); have LRc := Lib.hid (LRc.out.stepProg g1 g2 g3 (LRc.out.inP g2.size g3)); have n3 := LRc.out.up.cell CK.out.1 HpG.out; have nb := LRc.out.up.cell CK.out.2 HbG.out; clear g1 g2 g3 k2 k3 kb))
    have HX2 := Lib.hid ((HX.out.keep HU1.out).upd LRc.out.up (fun k hk f => f.elim (HG1.out k hk) (HG2.out k hk)))
    have LRd := Lib.hid (LRc.out.keep (Upd.refl Nil w2).drew)
    go_region_held3 (fun W => W.cell? ⟨p, 3, none⟩ = some (.pointer (some ⟨m, 0, none⟩)) ∧ W.cell? ⟨bx, 1, none⟩ = some (.slice ab xs.length cb)) (first | exact ⟨o3, ob⟩ | exact ⟨n3, nb⟩)
      (first
        | (go_at_call 86; refine (ref3_Append_LD _ LRd.out.ref HFi.out.1 cb HX2.out.drew HLen.out).mono ?_; intro e w3 hg; rw [HNC.out.1, HNC.out.2] at hg; obtain ⟨rfl, Fb, g1, g2, g3⟩ := hg; have HO3 := Lib.hid (HO2.out.drew.upd g2 (fun k hk f => by have := (HIn.out.2 k f).1; have := hk.1; have := HZ.out; omega)); have LRc := Lib.hid (LRd.out.stepRef g1 g2 g3 (LRd.out.inR g2.size g3)); have o3 := LRc.out.up.cell CK.out.1 HpG.out; have ob := LRc.out.up.cell CK.out.2 HbG.out; clear g1 g2 g3))
    all_goals go_wp2_with (first
      | (go_at_call 16; refine (bytesEqual_at _ c1 cb HO3.out.row ((HX.out.keep HU1.out).upd LRc.out.up (fun k hk f => f.elim (HG1.out k hk) (HG2.out k hk))) rfl rfl).mono ?_; intro e w' hg; rw [decide_eq_true (Eq.refl xs)] at hg; obtain ⟨rfl, rfl⟩ := hg)
      | (go_at_call 87; refine (spoil _ HO3.out).mono ?_; rintro e w4 ⟨rfl, g⟩; have LRc := Lib.hid (spoilt HBo1.out HU1.out LRc.out HIn0.out g); clear g)
      | (go_at_call 52; refine (pair_same _ (HBo.out.on LRc.out HA.out.1 HFi.out.2.1 HA.out.2.2.2)).mono ?_; rintro e wz ⟨rfl, g⟩; have LRc := Lib.hid (LRc.out.keep g); clear g))
    all_goals go_ret
    all_goals exact (DoesGot.of HBo.out LRc.out HA.out.1 HFi.out.2.1 HA.out.2.1 HA.out.2.2.1 rfl).back HAl.out
  · have hf2 : LFine (forceS S) := HFi.out.1.force
    have hB2 : Fine (applyP B (forceN S)) [] := (fine_forceN HFi.out.2.1 HFi.out.1 HFi.out.2.2).flush
    have ef : (forceS S).fr = S.fr := by unfold forceS; split <;> rfl
    have es : (forceS S).sectors = S.sectors := by unfold forceS; split <;> rfl
    have eb : (applyP B (forceN S)).length = B.length := length_applyP _ _
    have HA := Lib.hid (And.intro hf2 (And.intro hB2 (And.intro ef (And.intro es eb))))
    have ha2 : Hid ((forceS S).fr + (forceS S).sectors ≤ (applyP B (forceN S)).length) := Lib.hid (by rw [ef, es, eb]; exact HFi.out.2.2)
    clear hf2 hB2 ef es eb
    go_wp2_with fail
    have LRc := Lib.hid (HBo.out.start (Upd.refl Nil W0).drew)
    clear b0 b1 hW0 hbx
    go_region_held3 (fun W => W.cell? ⟨p, 2, none⟩ = some (.pointer (some ⟨l, 0, none⟩)) ∧ W.cell? ⟨p, 3, none⟩ = some (.pointer (some ⟨m, 0, none⟩))) (first | exact ⟨LRc.out.up.cell C.out.1 HpG.out, LRc.out.up.cell C.out.2.1 HpG.out⟩ | exact ⟨c2, c3⟩)
      (first
        | (go_at_call 43; refine (log_Force _ LRc.out.prog HFi.out.1 HFi.out.2.1 HFi.out.2.2 (HT.out.upd LRc.out.up H0G.out)).mono ?_; intro e wa hg; obtain ⟨rfl, Fa, r⟩ := LRc.out.gotP hg; have LRc := Lib.hid r; clear r)
        | (go_at_call 88; refine (ref3_Force _ LRc.out.ref HFi.out.1 HFi.out.2.1 HFi.out.2.2).mono ?_; intro e wa hg; obtain ⟨rfl, Fa, r⟩ := LRc.out.gotR hg; have LRc := Lib.hid r; clear r)
        | (go_at_call 52; refine (pair_same _ (HBo.out.on LRc.out HA.out.1 HA.out.2.1 ha2.out)).mono ?_; rintro e wz ⟨rfl, g⟩; have LRc := Lib.hid (LRc.out.keep g); clear g))
    all_goals go_wp2
    all_goals go_ret
    all_goals exact (DoesGot.of HBo.out LRc.out HA.out.1 HA.out.2.1 HA.out.2.2.1 HA.out.2.2.2.1 HA.out.2.2.2.2).back HAl.out
  · have hf2 : LFine (resetS S) := HFi.out.1.reset
    have hB2 : Fine (applyP B (resetN S)) [] := (fine_resetN HFi.out.2.1 HFi.out.1 HFi.out.2.2).flush
    have ef : (resetS S).fr = S.fr := by unfold resetS; split <;> rfl
    have es : (resetS S).sectors = S.sectors := by unfold resetS; split <;> rfl
    have eb : (applyP B (resetN S)).length = B.length := length_applyP _ _
    have HA := Lib.hid (And.intro hf2 (And.intro hB2 (And.intro ef (And.intro es eb))))
    have ha2 : Hid ((resetS S).fr + (resetS S).sectors ≤ (applyP B (resetN S)).length) := Lib.hid (by rw [ef, es, eb]; exact HFi.out.2.2)
    obtain ⟨rc, hrc⟩ : ∃ q, resetC S = q := ⟨_, rfl⟩
    have HRc := Lib.hid hrc
    clear hrc
    clear hf2 hB2 ef es eb
    go_wp2_with fail
    have LRc := Lib.hid (HBo.out.start (Upd.refl Nil W0).drew)
    clear b0 b1 hW0 hbx
    go_region_held3 (fun W => W.cell? ⟨p, 2, none⟩ = some (.pointer (some ⟨l, 0, none⟩)) ∧ W.cell? ⟨p, 3, none⟩ = some (.pointer (some ⟨m, 0, none⟩))) (first | exact ⟨LRc.out.up.cell C.out.1 HpG.out, LRc.out.up.cell C.out.2.1 HpG.out⟩ | exact ⟨c2, c3⟩)
      (first
        | (go_at_call 44; refine (log_Reset _ LRc.out.prog HFi.out.1 HFi.out.2.1 HFi.out.2.2 (HT.out.upd LRc.out.up H0G.out)).mono ?_; intro e wa hg; rw [HRc.out] at hg; obtain ⟨rfl, Fa, r⟩ := LRc.out.gotP hg; have LRc := Lib.hid r; clear r)
        | (go_at_call 89; refine (ref3_Reset _ LRc.out.ref HFi.out.1 HFi.out.2.1 HFi.out.2.2).mono ?_; intro e wa hg; rw [HRc.out] at hg; obtain ⟨rfl, Fa, r⟩ := LRc.out.gotR hg; have LRc := Lib.hid r; clear r)
        | (go_at_call 52; refine (pair_same _ (HBo.out.on LRc.out HA.out.1 HA.out.2.1 ha2.out)).mono ?_; rintro e wz ⟨rfl, g⟩; have LRc := Lib.hid (LRc.out.keep g); clear g))
    all_goals go_wp2
    all_goals go_ret
    all_goals exact (DoesGot.of HBo.out LRc.out HA.out.1 HA.out.2.1 HA.out.2.2.1 HA.out.2.2.2.1 HA.out.2.2.2.2).back HAl.out
  · obtain ⟨FD, FX, hd2, i1, i2⟩ := HBo.out.disks
    have HD2 := Lib.hid hd2
    have HI1 := Lib.hid i1
    have HI2 := Lib.hid i2
    have hpos := HFi.out.1.pos
    have hall := HFi.out.2.2
    clear hd2 i1 i2
    go_wp2_with (first
      | (go_at_call 50; refine (pair_open_yes _ HD2.out hpos hall HT.out).mono ?_; rintro e w1 ⟨rfl, l2, m2, F3, F4, g1, g2, g3, g4⟩; have K1 := Lib.hid g1; have K2 := Lib.hid g2; have K3 := Lib.hid g3; have K4 := Lib.hid g4; clear g1 g2 g3 g4)
      | (go_at_call 52; refine (pair_same _ K1.out).mono ?_; rintro e w2 ⟨rfl, g⟩; have HU := Lib.hid g; clear g))
    go_ret
    have zz := HU.out.size
    refine DoesGot.back HAl.out ⟨rfl, l2, m2, F3, F4, _, _, K1.out.keep HU.out, rfl, rfl, length_applyP _ _, (K2.out.mono (fun k hk => ?_)).trans HU.out (fun _ f _ => f.elim), fun k hk => ?_, fun k hk => ?_⟩
    · exact hk.imp (HI1.out k) (fun q => q.imp (HI2.out k) id)
    · exact (K3.out k hk).imp (HI1.out k) (Fr.on zz k)
    · exact (K4.out k hk).imp (HI2.out k) (Fr.on zz k)
end Go.Proofs.YtbaombnnagidcaaDoor

namespace Go.Proofs.YtbaombnnagidcaaDoor.logLives
open Go.RowKit diskOf

theorem walk_no {F E : Nat → Prop} (w : World) {A : Option Addr} {c0 : Nat} {vs : List Value} {B : List (List UInt8)} (hrow : Row F w A vs) (hall : All2 (Elem E w) vs B) (hl : B.length * 24 ≤ 140737488355328) (hx : ∀ x ∈ B, x.length ≤ 140737488355328) (hs : ¬ Sound B) (i j : Int) (a : Option Addr) (n c : Nat) :
    Calls Tryd.prog 12 #[.slice A B.length c0, .int .i64 i, .int .i64 j, .slice a n c] w fun e w' => e = .returned (.bool true) ∧ Upd Nil w w' := by
  have H := Lib.hid (disks_no (c0 := c0) w hrow hall hl hx hs)
  clear hrow hall hl hx hs
  go_enter Tryd.func12, Tryd.ntmps12
  go_wp2_with (go_at_call 49; refine H.out.mono ?_; rintro e w1 ⟨rfl, g⟩; have HU := Lib.hid g; clear g)
  go_ret
  exact ⟨rfl, HU.out⟩

/-- the pair that the law makes over both disks -/
theorem pair_new2 {w w1 : World} {d x : Nat} {F1 F2 : Nat → Prop} {B : List (List UInt8)} (h : Pair w1 d x F1 F2 B [] B []) (hB : Fine B []) (f1 : ∀ k, F1 k → Fr w w1 k) (f2 : ∀ k, F2 k → Fr w w1 k) (hz : 0 < w.heap.size) :
    Disks2 (w1.alloc (.cells (pairCells d x none none) 90)) w1.heap.size d x none none F1 F2 B := by
  have hk := h.alloc (.cells (pairCells d x none none) 90)
  exact ⟨Blk.new w1 _ _, hk.prog, hk.ref, fun f => by have := (f1 0 f).1; omega, fun f => by have := (f2 0 f).1; omega, fun k f => ⟨hk.in1 k f, by have := h.in1 k f; omega⟩, fun k f => ⟨hk.in2 k f, by have := h.in2 k f; omega⟩, h.apart, hB⟩

set_option maxRecDepth 100000 in
set_option maxHeartbeats 8000000 in
theorem walk_yes {F E : Nat → Prop} (w : World) {A : Option Addr} {c0 : Nat} {vs : List Value} {B : List (List UInt8)} (hrow : Row F w A vs) (hall : All2 (Elem E w) vs B) (hs : Sound B) (i j : Int) {a : Option Addr} {n : Nat} (c : Nat) {d : Nat → Do3} (hc : Calls03 w a n d) (hn : n ≤ 4398046511104) (tab : Tab w) :
    Calls Tryd.prog 12 #[.slice A B.length c0, .int .i64 i, .int .i64 j, .slice a n c] w fun e w' => e = .returned (.bool true) ∧ Upd Nil w w' := by
  have HC := Lib.hid hc
  have HT := Lib.hid tab
  have H := Lib.hid (disks_yes (c0 := c0) w hrow hall hs)
  have HFi : Hid (Fine B []) := Lib.hid ⟨hs.1, hs.2.1, hs.2.2, fun _ h => by cases h⟩
  have hsz : 0 < w.heap.size := World.block_lt_of_cell? _ _ (tab 0 (by decide))
  clear hrow hall hs hc tab
  go_enter Tryd.func12, Tryd.ntmps12
  go_upto_region 4 with (go_at_call 49; refine H.out.mono ?_; rintro e w1 ⟨s1, s2, F1, F2, rfl, g1, g2, g3, g4⟩; have HP := Lib.hid g1; have HF1 := Lib.hid g2; have HF2 := Lib.hid g3; have HU1 := Lib.hid g4; clear g1 g2 g3 g4)
  obtain ⟨W, hW⟩ : ∃ W, w1.alloc (.cells (pairCells s1 s2 none none) 90) = W := ⟨_, rfl⟩
  have hW' : w1.alloc (.cells #[.pointer (some ⟨s1, 0, none⟩), .pointer (some ⟨s2, 0, none⟩), .pointer none, .pointer none] 90) = W := hW
  obtain ⟨p, hp⟩ : ∃ q, w1.heap.size = q := ⟨_, rfl⟩
  have hd2 := pair_new2 (w := w) HP.out HFi.out HF1.out HF2.out hsz
  rw [hW, hp] at hd2
  have al : Upd Nil w1 W := by rw [← hW]; exact (Upd.refl Nil w1).alloc _
  have hpw : w.heap.size ≤ p := by have := HU1.out.size; omega
  have HD2 := Lib.hid hd2
  have HU := Lib.hid (HU1.out.trans al (fun _ f _ => f))
  have HTW := Lib.hid (HT.out.upd (HU1.out.trans al (fun _ f _ => f)) (fun f => f))
  clear hW hd2 al H
  by_cases hbad : BadPlace B.length i j
  · have HBad := Lib.hid hbad
    clear hbad
    go_wp2_with (go_at_call 50; refine (pair_open_no W HD2.out HBad.out).mono ?_; rintro e w2 ⟨rfl, g1, g2⟩; have c3 := g1; have HV := Lib.hid g2; clear g1 g2)
    go_ret
    exact ⟨rfl, HU.out.past HV.out (fun k hk => by rw [show k = p from hk]; exact hpw)⟩
  · obtain ⟨fr, k0, rfl, rfl, h1, h2⟩ := goodPlace hbad
    clear hbad
    go_wp2_with (go_at_call 50; refine (pair_open_yes W HD2.out h1 h2 HTW.out).mono ?_; rintro e w2 ⟨rfl, l, m, F3, F4, g1, g2, g3, g4⟩; have c3 : w2.cell? ⟨p, 3, none⟩ = some (.pointer (some ⟨m, 0, none⟩)) := g1.blk.cell 3; have K1 := Lib.hid g1; have K2 := Lib.hid g2; have K3 := Lib.hid g3; have K4 := Lib.hid g4; clear g1 g2 g3 g4)
    clear c3
    go_loopg [51] n (fun k iv wr => ∃ q : Nat, q + k = n ∧ iv = .int .i64 (q : Int) ∧ ∃ (l m : Nat) (G1 G2 : Nat → Prop) (S : LogS) (B' : List (List UInt8)), Both wr p s1 s2 l m G1 G2 S B' ∧ S.fr = fr ∧ S.sectors = k0 ∧ Upd Nil w wr ∧ (∀ k, G1 k → w.heap.size ≤ k) ∧ ∀ k, G2 k → w.heap.size ≤ k)
    case atStart =>
      have z1 := HU.out.size
      refine ⟨0, by omega, rfl, l, m, F3, F4, _, _, K1.out, rfl, rfl, HU.out.past K2.out (fun k hk => ?_), fun k hk => ?_, fun k hk => ?_⟩
      · rcases hk with q | q | q
        · exact (HF1.out k q).1
        · exact (HF2.out k q).1
        · rw [q]; exact hpw
      · rcases K3.out k hk with q | q
        · exact (HF1.out k q).1
        · exact Nat.le_trans z1 q.1
      · rcases K4.out k hk with q | q
        · exact (HF2.out k q).1
        · exact Nat.le_trans z1 q.1
    case round =>
      obtain ⟨q, hqk, rfl, l', m', G1, G2, S, B', hb, hfr, hsec, hup, e1, e2⟩ := hrel
      have hqn : q ≤ n := by omega
      have HJ := Lib.hid hqk
      have HB := Lib.hid hb
      have HS := Lib.hid (And.intro hfr hsec)
      have HUp := Lib.hid hup
      have HE := Lib.hid (And.intro e1 e2)
      clear hqk hb hfr hsec e1 e2
      by_cases hlt : q < n
      · obtain ⟨b, o, ab, cb, rfl, q0, q1, hrw, hnn, hlen, hcap⟩ := HC.out q hlt
        obtain ⟨⟨op, xs⟩, hdj⟩ : ∃ z, d q = z := ⟨_, rfl⟩
        rw [hdj] at q0 q1 hrw hlen hcap
        dsimp only at q0 q1 hrw hlen hcap
        have r0 := hup.cell q0 (fun f => f)
        have r1 := hup.cell q1 (fun f => f)
        have HXr := Lib.hid (hrw.keep hup)
        have HLen := Lib.hid hlen
        have HTr := Lib.hid (HT.out.upd hup (fun f => f))
        clear q0 q1 hrw hnn hdj hcap hup hlen
        go_wp2_with (go_at_call 51; refine (pair_does _ (HB.out.keep ((Upd.refl Nil wr).alloc _)) HS.out.1 HS.out.2 op cb (HXr.out.alloc _) HLen.out (fun k hk f => by have h1 : k < w.heap.size := hk; have := HE.out.1 k f; omega) (fun k hk f => by have h1 : k < w.heap.size := hk; have := HE.out.2 k f; omega) (HTr.out.upd ((Upd.refl Nil wr).alloc _) (fun f => f))).mono ?_; rintro e w3 ⟨rfl, l3, m3, F5, F6, S3, B3, g1, g2, g3, g4, g5, g6, g7⟩; have J1 := Lib.hid g1; have J2 := Lib.hid (And.intro g2 g3); have J5 := Lib.hid g5; have J6 := Lib.hid g6; have J7 := Lib.hid g7; clear g1 g2 g3 g4 g5 g6 g7)
        go_roundg (gk - 1)
        case measure => have := HJ.out; omega
        case rel =>
          have z0 := HUp.out.size
          refine ⟨q + 1, by have := HJ.out; omega, by go_num, l3, m3, F5, F6, S3, B3, J1.out, by rw [J2.out.1, HS.out.1], by rw [J2.out.2, HS.out.2], (HUp.out.alloc _).past J5.out (fun k hk => ?_), fun k hk => ?_, fun k hk => ?_⟩
          · rcases hk with h | h | h
            · exact HE.out.1 k h
            · exact HE.out.2 k h
            · rw [h]; exact hpw
          · rcases J6.out k hk with h | h
            · exact HE.out.1 k h
            · have := h.1; simp only [World.size_alloc] at this; omega
          · rcases J7.out k hk with h | h
            · exact HE.out.2 k h
            · have := h.1; simp only [World.size_alloc] at this; omega
      · go_wp2_with (go_at_call 52; refine (pair_same _ HB.out).mono ?_; rintro e w4 ⟨rfl, g⟩; have G7 := Lib.hid g; clear g)
        go_ret
        exact ⟨rfl, HUp.out.trans G7.out (fun _ f _ => f)⟩
end Go.Proofs.YtbaombnnagidcaaDoor.logLives

namespace Go.Proofs.YtbaombnnagidcaaDoor
open Go.RowKit Go.ChangeShapes Go.WideShapes Go.ChangeAt

theorem gTab : Tryd.prog.globalNamed "rostrum/wire.halves" = some 0 := by kernel_rfl
theorem gTabType : (Tryd.prog.globals[0]?).map (·.type) = some 96 := by kernel_rfl
theorem gTabCells : Tryd.prog.cellsOf 96 = 16 := by kernel_rfl
theorem gElemCells : Tryd.prog.cellsOf 27 = 1 := by kernel_rfl
abbrev doorLaid : List (String × DataW Unit) := [("rostrum/wire.halves", Rows.laid_rostrum_wire_halves)]

/-- WHAT THE ROW's LIST GIVES: the table's cells. -/
theorem tab_of {W : World} (h : laidMetH Tryd.prog doorLaid W) : Tab W := fun i hi => by
  have ht : Lib.TabIs Tryd.prog W "rostrum/wire.halves" .u32 (tab16.map (fun n => ((n : Nat) : Int))) :=
    Lib.tabIs_of_head (rest := []) gTab gTabType Tryd.underlying96 Tryd.underlying27 gElemCells gTabCells h
  have := ht.cell gTab i (by simpa [tab16] using hi)
  rw [this]
  congr 2
  have e : ∀ i : Fin 16, (tab16.map (fun n => ((n : Nat) : Int))).getD i.1 0 = ((tab16.getD i.1 0 : Nat) : Int) := by decide +kernel
  exact e ⟨i, hi⟩

/-- A WORLD FOR THE WITNESS: the settled one, the table (block 0) holding what its initialiser lays. -/
noncomputable def laidWorld (os : Os) : World :=
  { World.holding Tryd.prog os ⟨#[], #[], []⟩ with heap := (World.holding Tryd.prog os ⟨#[], #[], []⟩).heap.modify 0 fun
      | .cells _ t frozen => .cells #[.int .u32 0, .int .u32 498536548, .int .u32 997073096, .int .u32 651767980, .int .u32 1994146192, .int .u32 1802195444, .int .u32 1303535960, .int .u32 1342533948, .int .u32 3988292384, .int .u32 4027552580, .int .u32 3604390888, .int .u32 3412177804, .int .u32 2607071920, .int .u32 2262029012, .int .u32 2685067896, .int .u32 3183342108] t frozen
      | o => o }
end Go.Proofs.YtbaombnnagidcaaDoor

namespace Go.Proofs.YtbaombnnagidcaaDoor.logLives
open Go.RowKit Go.Deep Go.WideShapes Go.ChangeShapes Go.ChangeAt Go.ChangeMaps

set_option maxRecDepth 100000 in
theorem lawWalk (cond : (H : Type) → List (DataW H) → Prop) : LawWalk 12 Tryd.f12 cond doorLaid := by
  intro H enc W args ds ps hval hA hfit _ hL
  rw [Tryd.params12] at hA hval hfit
  obtain ⟨v0, vs0, d0, ds0, p0, q0, hargs, rfl, rfl, h0, r0⟩ := trodAll_cons hA
  obtain ⟨v1, vs1, d1, ds1, p1, q1, rfl, rfl, rfl, h1, r1⟩ := trodAll_cons r0
  obtain ⟨v2, vs2, d2, ds2, p2, q2, rfl, rfl, rfl, h2, r2⟩ := trodAll_cons r1
  obtain ⟨v3, vs3, d3, ds3, p3, q3, rfl, rfl, rfl, h3, r3⟩ := trodAll_cons r2
  obtain ⟨rfl, rfl, rfl⟩ := trodAll_nil r3
  obtain rfl : args = #[v0, v1, v2, v3] := by cases args; simp_all
  obtain ⟨base0, hok0⟩ := hval 0 _ v0 rfl rfl
  obtain ⟨fuel0, h0⟩ := h0
  obtain ⟨A0, n0, c0, vs0, B0, hv0, hn10, hn20, hnn0, hrow0, hall0, hln0, hsz0, hx0⟩ := open_rows Tryd.underlying59 Tryd.underlying22 Tryd.underlying5 (by kernel_rfl) (by kernel_rfl) h0 (by kernel_rfl) (hfit 0 _ d0 rfl rfl)
  rw [show Tryd.prog.bytesOf 22 = 24 from by kernel_rfl] at hsz0
  subst hln0
  obtain rfl := val_slice Tryd.underlying59 hok0 hv0
  obtain ⟨base1, hok1⟩ := hval 1 _ v1 rfl rfl
  obtain ⟨z1, rfl, _⟩ := open_int Tryd.underlying3 hok1 h1
  obtain ⟨base2, hok2⟩ := hval 2 _ v2 rfl rfl
  obtain ⟨z2, rfl, _⟩ := open_int Tryd.underlying3 hok2 h2
  obtain ⟨base3, hok3⟩ := hval 3 _ v3 rfl rfl
  obtain ⟨fuel3, h3⟩ := h3
  obtain ⟨a3, m3, c3, d, hv3, hc3, hn3⟩ := openCalls03 h3 (hfit 3 _ d3 rfl rfl)
  obtain rfl := val_slice Tryd.underlying79 hok3 hv3
  have hr : reachBytes ≤ 140737488355328 := by decide
  by_cases hs : diskOf.Sound B0
  · exact walk_yes W hrow0 hall0 hs z1 z2 c3 hc3 (by omega) (tab_of hL)
  · exact walk_no W hrow0 hall0 (by omega) (fun x hx' => Nat.le_trans (hx0 x hx') hr) hs z1 z2 a3 m3 c3

theorem reads (os : Os) {H : Type} (enc : TypeId × Value → H) : ∃ places, DataW.whole enc Tryd.prog ((laidWorld os).forCall (fun _ _ => 0) ⟨#[], #[.slice none 0 0, .int .i64 0, .int .i64 0, .slice none 0 0], []⟩).memory Tryd.f12.params.toList Rows.logLivesSpec.vars false (#[.slice none 0 0, .int .i64 0, .int .i64 0, .slice none 0 0] : Array Value).toList 8 = some ([.nil, .lit (.int .i64 0), .lit (.int .i64 0), .nil], [], places) :=
  ⟨[], by kernel_rfl⟩
theorem laid_met (os : Os) : laidMet Tryd.prog Rows.logLivesRow.laid ((laidWorld os).forCall (fun _ _ => 0) ⟨#[], #[.slice none 0 0, .int .i64 0, .int .i64 0, .slice none 0 0], []⟩).memory :=
  laidMet_of_run' 8 (by kernel_rfl) (by kernel_rfl)

set_option maxRecDepth 100000 in
theorem lifted (os : Os) (started : os.Started) (H : Type) (enc : TypeId × Value → H) (F : Stop.Interp) :
    ReturnsInHanded {} Tryd.checked os 12 .any ((OpenSpec.ofChange Rows.logLivesSpec).preRow enc Tryd.prog Tryd.f12 Rows.logLivesRow.domain false Rows.logLivesRow.laid) (((OpenSpec.ofChange Rows.logLivesSpec).at F).post enc Tryd.prog Tryd.f12 false true false false) := by
  obtain ⟨places, hx⟩ := reads os enc
  refine returnsInHanded_of_row (C := Tryd.checked) (s := OpenSpec.ofChange Rows.logLivesSpec) own started (by kernel_rfl) Tryd.func12
    (witness_row_at (enc := enc) (C := Tryd.checked) false (laidWorld os) #[.slice none 0 0, .int .i64 0, .int .i64 0, .slice none 0 0] rfl (by kernel_rfl) (by kernel_rfl) (by kernel_rfl)
      (OpenSpec.preRow_of_cond 8 hx (by kernel_rfl) (fun k hk => by cases hk) (by kernel_rfl) (laid_met os))) ?_
  intro W base args ds gs before hval hW _ hk hsz hL _ _
  exact law_contract (k := (OpenSpec.ofChange Rows.logLivesSpec).cond) (lawWalk (fun _ _ => True)) (fun H ds h => trivial) (by decide +kernel) rfl rfl (fun H ds hd => by
    match ds, hd with
    | [_, _, _, _], _ => rfl) W base args ds gs before hval hW hk hsz hL

theorem said : Rows.LogLivesSaid :=
  OpenClaim.holds_of_cond 12 Tryd.f12 rfl rfl rfl rfl rfl rfl rfl ⟨rfl, rfl, rfl, rfl, rfl⟩ rfl rfl rfl rfl rfl (by kernel_rfl) Tryd.func12 (by kernel_rfl)
    (of_decide_eq_true (by kernel_rfl)) (by unfold Func.isWrapper; first | (rw [if_pos (by decide +kernel)]; kernel_rfl) | (rw [if_neg (by decide +kernel)]; exact ⟨rfl, rfl⟩))
    (fun os started H enc _ F => by rw [OpenClaim.pre_eq_preRow]; exact lifted os started H enc F)

/-- No parameter wants a stand-in; the program's own looks are off: what the card asks. -/
theorem plain (f : FuncId) (fn : Func) (hf : Tryd.pinned.checked.prog.funcNamed "rostrum/rostrumlaw03.LogLives" = some f) (hfn : Tryd.pinned.checked.prog.funcs[f]? = some fn) :
    false = Tryd.pinned.checked.prog.looks [] ∧ ∀ (j : Nat) t, fn.params[j]? = some t → Tryd.pinned.checked.prog.wantsStandIn t = false := by
  obtain rfl : f = 12 := Option.some.inj ((show Tryd.prog.funcNamed "rostrum/rostrumlaw03.LogLives" = some 12 by kernel_rfl).symm.trans hf) |>.symm
  obtain rfl : fn = Tryd.f12 := (Option.some.inj (Tryd.func12.symm.trans hfn)).symm
  refine ⟨by kernel_rfl, fun j t ht => ?_⟩
  rw [Tryd.params12] at ht
  have hm := Array.mem_of_getElem? ht
  simp only [List.mem_toArray, List.mem_cons, List.not_mem_nil, or_false] at hm
  rcases hm with rfl | rfl | rfl | rfl
  · exact (show Tryd.prog.wantsStandIn 59 = false by kernel_rfl)
  · exact (show Tryd.prog.wantsStandIn 3 = false by kernel_rfl)
  · exact (show Tryd.prog.wantsStandIn 3 = false by kernel_rfl)
  · exact (show Tryd.prog.wantsStandIn 79 = false by kernel_rfl)

/-- THE CARD. -/
theorem card : Rows.LogLivesCardSaid :=
  Claim7.holds_tied_plain_at .later [] _ _ _ _ said (fun _ h => by cases h) (by kernel_rfl) (fun _ h => by cases h) logLives_row_tie rfl ⟨rfl, rfl⟩ (by kernel_rfl) rfl plain (by kernel_rfl)
#print axioms card
end Go.Proofs.YtbaombnnagidcaaDoor.logLives
