/- The program's log: Open. -/
import Derived.Test.YtbaombnnagidcaaDoorZL15
import Derived.Deep.CutBlock

namespace Go.Proofs.YtbaombnnagidcaaDoor
open Go.RowKit

theorem size_setCell (w : World) (a : Addr) (v : Value) : (w.setCell a v).heap.size = w.heap.size := by simp [World.setCell]
theorem splitL_facts : ∀ (n : Nat) (l : List UInt8), l.length ≤ n → (splitL l).2 ≤ l.length ∧ (splitL l).1.length ≤ (splitL l).2
  | 0, l, hn => by
    have hl : l = [] := List.eq_nil_of_length_eq_zero (by omega)
    subst hl
    have h : ¬ ((textR 2000 []).2.2 = 0 ∧ (textR 2000 []).1 ≠ []) := fun h => by
      have := textR_used h.2
      simp at this
      omega
    rw [splitL_no h]
    exact ⟨Nat.zero_le _, Nat.le_refl _⟩
  | n + 1, l, hn => by
    by_cases h : (textR 2000 l).2.2 = 0 ∧ (textR 2000 l).1 ≠ []
    · rw [splitL_yes h.1 h.2]
      obtain ⟨h1, h2, _⟩ := textR_used h.2
      have hd : (l.drop (textR 2000 l).2.1).length = l.length - (textR 2000 l).2.1 := List.length_drop
      have ih := splitL_facts n (l.drop (textR 2000 l).2.1) (by omega)
      rw [hd] at ih
      dsimp only
      rw [List.length_cons]
      omega
    · rw [splitL_no h]
      exact ⟨Nat.zero_le _, Nat.le_refl _⟩
/-- what Open finds: the sectors that are used, the first number, the stream -/
def openR (B : List (List UInt8)) (fr sectors : Nat) : Nat × Nat × List UInt8 := openGo (fun j => B.getD (fr + j) []) sectors 0 1 []
/-- the log that Open makes -/
def openS (B : List (List UInt8)) (fr sectors : Nat) : LogS :=
  { fr := fr, sectors := sectors, first := (openR B fr sectors).2.1, last := (openR B fr sectors).2.1 + (splitL (openR B fr sectors).2.2).1.length - 1, forced := (openR B fr sectors).2.1 + (splitL (openR B fr sectors).2.2).1.length - 1,
    stream := (openR B fr sectors).2.2.take (splitL (openR B fr sectors).2.2).2, durable := (splitL (openR B fr sectors).2.2).2 }
def openW (B : List (List UInt8)) (fr sectors : Nat) : List Snt := cleanW (openS B fr sectors) B (openR B fr sectors).1 (openR B fr sectors).2.2.length

/-- what stands when clean is called -/
theorem open_LD {FD Rs : Nat → Prop} {w wc w1 : World} {d l fr sectors first n : Nat} {B : List (List UInt8)} {st : List UInt8} {a : Option Addr} {c : Nat} (hd : DiskRep FD w d B []) (h0 : ¬ FD 0) (hl : w.heap.size = l) (hup : Upd Nil w wc) (hu1 : Upd Nil wc w1)
    (hb : Blk w1 l 69 #[.pointer (some ⟨d, 0, none⟩), .int .i64 (fr : Int), .int .i64 (sectors : Int), .int .i64 (first : Int), .int .i64 0, .int .i64 0, .slice a st.length c, .int .i64 0])
    (hown : Own Rs wc 5 1 a st.length c (bvs st)) (hrs : ∀ k, Rs k → Fr w wc k ∧ k ≠ l) (hn : n ≤ st.length) (hst : st.length ≤ 458752) :
    LogLD (fun k => (FD k ∧ k < w.heap.size) ∨ k = l ∨ Rs k) ((w1.setCell ⟨l, 6, none⟩ (.slice a n n)).setCell ⟨l, 7, none⟩ (.int .i64 (n : Int))) l d { fr := fr, sectors := sectors, first := first, last := 0, forced := 0, stream := st.take n, durable := n } B [] := by
  have hz : ((w1.setCell ⟨l, 6, none⟩ (.slice a n n)).setCell ⟨l, 7, none⟩ (.int .i64 (n : Int))).heap.size = w1.heap.size := by rw [size_setCell, size_setCell]
  have h1 := hup.size
  have h2 := hu1.size
  have h3 := hb.lt
  have hdl : d < w.heap.size := by obtain ⟨_, _, _, _, _, _, _, _, _, _, _, _, _, hbd, _⟩ := hd; exact hbd.lt
  have one : Upd (One l) w1 ((w1.setCell ⟨l, 6, none⟩ (.slice a n n)).setCell ⟨l, 7, none⟩ (.int .i64 (n : Int))) := ((Upd.refl (One l) w1).setCell (p := ⟨l, 6, none⟩) (.inl rfl) _).setCell (p := ⟨l, 7, none⟩) (.inl rfl) _
  have hlen : (st.take n).length = n := by rw [List.length_take]; omega
  have hrow : Row Rs ((w1.setCell ⟨l, 6, none⟩ (.slice a n n)).setCell ⟨l, 7, none⟩ (.int .i64 (n : Int))) a (bvs (st.take n)) := by
    have := ((hown.row.keep hu1).upd one (fun k hk e => (hrs k hk).2 e)).take n
    simpa [bvs, List.map_take] using this
  have hheld := Held.cut (g := true) hrow (by rw [hlen]; simp only [maxLen]; omega) (fun e => by
    rw [hlen]
    have := hown.noneCap e
    have := hown.le.1
    omega)
  rw [hlen] at hheld
  refine ⟨?_, fun k => k = l ∨ Rs k, fun k => FD k ∧ k < w.heap.size, fun k hk => ⟨.inr hk, ?_, ?_⟩, fun k hk => ⟨.inl hk, by omega⟩, ⟨Rs, a, n, .inl rfl, fun k hk => ⟨.inr hk, (hrs k hk).2, ?_⟩, ?_, hheld⟩, ?_⟩
  · rintro (q | q | q)
    · exact h0 q.1
    · omega
    · have := (hrs 0 q).1.1; omega
  · rintro ⟨_, q⟩
    rcases hk with e | e
    · omega
    · have := (hrs k e).1.1; omega
  · rcases hk with e | e
    · omega
    · have := (hrs k e).1.2; omega
  · have := (hrs k hk).1.2; omega
  · have := (hb.set 6 (.slice a n n)).set 7 (.int .i64 (n : Int))
    rw [logCells, hlen]
    exact this
  · refine (hd.inHeap.upd (hup.trans hu1 (fun _ f _ => f)) (fun _ _ f => f)).upd one (fun k hk e => ?_)
    have := hk.2
    rw [show k = l from e] at this
    omega

set_option maxRecDepth 100000 in
set_option maxHeartbeats 8000000 in
theorem log_Open_yes {FD : Nat → Prop} (w : World) {d : Nat} {B : List (List UInt8)} (hd : DiskRep FD w d B []) (hB : Fine B []) (h0 : ¬ FD 0) {fr sectors : Nat} (hs : 1 ≤ sectors) (hle : fr + sectors ≤ B.length) (tab : Tab w) :
    Calls Tryd.prog 38 #[.pointer (some ⟨d, 0, none⟩), .int .i64 (fr : Int), .int .i64 (sectors : Int)] w fun e w' => ∃ l, ∃ R E : Nat → Prop, ∃ a c vs, e = .returned (.tuple #[.pointer (some ⟨l, 0, none⟩), .slice a (splitL (openR B fr sectors).2.2).1.length c, .int .i64 0]) ∧
      ∃ F', LogLD F' w' l d (openS B fr sectors) (applyP B (openW B fr sectors)) [] ∧ Upd FD w w' ∧ (∀ k, F' k → FD k ∨ Fr w w' k) ∧ Rows R E w' a (splitL (openR B fr sectors).2.2).1.length c vs (splitL (openR B fr sectors).2.2).1 ∧ (∀ k, R k → Fr w w' k ∧ ¬ F' k) ∧ ∀ k, E k → Fr w w' k ∧ ¬ F' k := by
  have HDk := Lib.hid hd
  have HBf := Lib.hid hB
  have HT := Lib.hid tab
  have H0 := Lib.hid h0
  have HSc := Lib.hid (disk_Sectors w hd)
  have hB1 := hB.le
  clear hd hB tab h0
  go_enter Tryd.func38, Tryd.ntmps38
  obtain ⟨l, hl⟩ : ∃ l, w.heap.size = l := ⟨_, rfl⟩
  obtain ⟨W0, hW0⟩ : ∃ W0, w.alloc (.cells #[.pointer (some ⟨d, 0, none⟩), .int .i64 (fr : Int), .int .i64 (sectors : Int), .int .i64 1, .int .i64 0, .int .i64 0, .slice none 0 0, .int .i64 0] 69) = W0 := ⟨_, rfl⟩
  have HW0 := Lib.hid hW0
  have HL := Lib.hid hl
  have hu0 : Upd Nil w W0 := by rw [← hW0]; exact (Upd.refl Nil w).alloc _
  have hz0 : W0.heap.size = w.heap.size + 1 := by rw [← hW0]; simp
  have hb0 : Blk W0 l 69 #[.pointer (some ⟨d, 0, none⟩), .int .i64 (fr : Int), .int .i64 (sectors : Int), .int .i64 1, .int .i64 0, .int .i64 0, .slice none 0 0, .int .i64 0] := by rw [← hW0, ← hl]; exact Blk.new w _ _
  have HU0 := Lib.hid hu0
  have HZ0 := Lib.hid hz0
  have HB0 := Lib.hid hb0
  obtain ⟨rd, hrd⟩ : ∃ rd : Nat → List UInt8, (fun j => B.getD (fr + j) []) = rd := ⟨_, rfl⟩
  have HRd := Lib.hid hrd
  obtain ⟨r, hr⟩ : ∃ r, openR B fr sectors = r := ⟨_, rfl⟩
  have HR := Lib.hid hr
  have hr2 : openGo rd sectors 0 1 [] = r := by rw [← hr, ← hrd]; rfl
  have HR2 := Lib.hid hr2
  obtain ⟨S, hS⟩ : ∃ S, openS B fr sectors = S := ⟨_, rfl⟩
  have HS := Lib.hid hS
  obtain ⟨WW, hWW⟩ : ∃ W, openW B fr sectors = W := ⟨_, rfl⟩
  have HWW := Lib.hid hWW
  rw [hr, hS, hWW]
  obtain ⟨st0, hst0⟩ : ∃ st, r.2.2 = st := ⟨_, rfl⟩
  obtain ⟨recs, hrc0⟩ : ∃ q, (splitL st0).1 = q := ⟨_, rfl⟩
  rw [hst0, hrc0]
  have HRc := Lib.hid (And.intro hst0 hrc0)
  clear hu0 hz0 hb0 hrd hr hr2 hS hWW hst0 hrc0
  go_upto_region 4 with (go_at_call 39; refine HSc.out.mono ?_; rintro e w' ⟨rfl, rfl⟩)
  go_cut [43] (fun v wx => v = .bool false ∧ wx = w)
  case first =>
    go_wp2_with fail
    all_goals go_meet
    all_goals exact ⟨congrArg Value.bool (by simp; omega), rfl⟩
  case rest =>
  obtain ⟨rfl, ew0⟩ := hcut
  have ew1 := ew0.symm
  subst ew1
  clear ew0
  go_upto_block 0 with fail
  clear hW0 hl
  go_cut [11] (fun uv wx => uv = .int .i64 (r.1 : Int) ∧ Upd Nil w wx ∧ ∃ Rs : Nat → Prop, ∃ a c, Blk wx l 69 #[.pointer (some ⟨d, 0, none⟩), .int .i64 (fr : Int), .int .i64 (sectors : Int), .int .i64 (r.2.1 : Int), .int .i64 0, .int .i64 0, .slice a r.2.2.length c, .int .i64 0] ∧ Own Rs wx 5 1 a r.2.2.length c (bvs r.2.2) ∧ ∀ k, Rs k → Fr w wx k ∧ k ≠ l)
  case first =>
    obtain ⟨i0, hi, hz0, hz1, hz2⟩ := info_parts infoU8
    have hi0 := Lib.hid (And.intro hi (And.intro hz0 (And.intro hz1 hz2)))
    clear hi hz0 hz1 hz2
    go_wp2_with fail
    go_loopg [11, 50] sectors (fun k uv iv wr => ∃ (j first : Nat) (st : List UInt8), j + k = sectors ∧ uv = .int .i64 (j : Int) ∧ iv = .int .i64 (j : Int) ∧ openGo rd k j first st = r ∧ st.length ≤ j * 112 ∧ 1 ≤ first ∧ first ≤ 4611686018427387904 ∧ Upd Nil w wr ∧ ∃ Rs : Nat → Prop, ∃ a c, Blk wr l 69 #[.pointer (some ⟨d, 0, none⟩), .int .i64 (fr : Int), .int .i64 (sectors : Int), .int .i64 (first : Int), .int .i64 0, .int .i64 0, .slice a st.length c, .int .i64 0] ∧ Own Rs wr 5 1 a st.length c (bvs st) ∧ ∀ k, Rs k → Fr w wr k ∧ k ≠ l)
    case atStart => exact ⟨0, 1, [], Nat.zero_add _, rfl, rfl, HR2.out, Nat.le_refl _, Nat.le_refl _, by decide, HU0.out, Nil, none, 0, HB0.out, Own.none_ _ _ _ _, fun _ f => f.elim⟩
    case round =>
      obtain ⟨j, first, st, hjk, rfl, rfl, hgo, hst, h1, h2, hup, Rs, a, c, hb, hown, hrs⟩ := hrel
      have HF1' := Lib.hid (And.intro h1 h2)
      have HU := Lib.hid hup
      have HB := Lib.hid hb
      have HOw := Lib.hid hown
      have HRs := Lib.hid hrs
      have HJ := Lib.hid hjk
      have HRl : Hid (∀ k, Rs k → ¬ One l k) := Lib.hid (fun k hk => (hrs k hk).2)
      have c3 : wr.cell? ⟨l, 3, none⟩ = some (.int .i64 (first : Int)) := hb.cell 3
      obtain ⟨X, hX⟩ : ∃ X, B.getD (fr + j) [] = X := ⟨_, rfl⟩
      have hXr : rd j = X := by rw [← hX, ← HRd.out]
      have HX := Lib.hid hX
      clear h1 h2 hup hb hown hrs hX
      rcases gk with _ | gk'
      · have hjs : j = sectors := by omega
        have HGo := Lib.hid (show (j, first, st) = r from hgo)
        clear hgo
        go_wp2_with fail
        go_meet
        have e1 : r = (j, first, st) := HGo.out.symm
        rw [e1]
        exact ⟨rfl, HU.out, Rs, a, c, HB.out, HOw.out, HRs.out⟩
      · have hlt : j < sectors := by omega
        have hfB : fr + j < B.length := by omega
        have hgo2 : (match readSec X j with
          | none => (j, first, st)
          | some (load, f) => if 0 < j ∧ f ≠ first then (j, first, st) else if load.length < 112 then (j + 1, f, st ++ load) else openGo rd gk' (j + 1) f (st ++ load)) = r := by rw [← hXr]; exact hgo
        have hst2 : st.length ≤ 458752 := by omega
        clear hgo hXr
        rcases hsec : readSec X j with _ | ⟨load, f⟩
        · have HSec := Lib.hid hsec
          rw [hsec] at hgo2
          have HGo := Lib.hid hgo2
          clear hsec hgo2
          go_wp2_with (first
            | (go_at_call 71; refine (disk_Read_at _ (HDk.out.upd HU.out (fun _ _ f => f)) HBf.out (by simp) (i := fr + j) hfB (fun p hp => by cases hp) HX.out).mono ?_; rintro e w1 ⟨a1, c1, rfl, g1, g2⟩; have HO1 := Lib.hid g1; have HU1 := Lib.hid g2; clear g1 g2)
            | (go_at_call 72; refine (log_parse _ c1 HO1.out.row (by have := HO1.out.le.1; have := HO1.out.1; rw [length_bvs] at this; omega) HO1.out.le.2 (by have := HO1.out.1; rw [length_bvs] at this; omega) j (by omega) (HT.out.upd (HU.out.trans HU1.out (fun _ f _ => f.elim)) (fun f => f))).mono ?_; intro e w2 hg; rw [HSec.out] at hg; obtain ⟨g2, v, z, rfl⟩ := hg; have HU2 := Lib.hid g2; clear g2))
          go_meet
          have e1 : r = (j, first, st) := HGo.out.symm
          rw [e1]
          have uu := HU1.out.trans HU2.out (fun _ f _ => f)
          exact ⟨rfl, HU.out.trans uu (fun _ f _ => f.elim), Rs, a, c, HB.out.upd uu (fun f => f), HOw.out.keep uu, fun k hk => ⟨Fr.on uu.size k (HRs.out k hk).1, (HRs.out k hk).2⟩⟩
        · have HSec := Lib.hid hsec
          rw [hsec] at hgo2
          have hgo3 : (if 0 < j ∧ f ≠ first then (j, first, st) else if load.length < 112 then (j + 1, f, st ++ load) else openGo rd gk' (j + 1) f (st ++ load)) = r := hgo2
          obtain ⟨hld, hf1, hf2, _⟩ := readSec_some hsec
          have HF1 := Lib.hid hf1
          have HF2 := Lib.hid hf2
          clear hsec hgo2 hf1 hf2
          by_cases hbr : 0 < j ∧ f ≠ first
          · rw [if_pos hbr] at hgo3
            have HGo := Lib.hid hgo3
            have q1 : (0 : Int) < (j : Int) := by omega
            have q2 : ((f : Int) != (first : Int)) = true := by rw [bne_iff_ne]; omega
            have q3 : ((f : Int) == (first : Int)) = false := by rw [beq_eq_false_iff_ne]; omega
            clear hgo3 hbr
            go_wp2_with (first
              | (go_at_call 71; refine (disk_Read_at _ (HDk.out.upd HU.out (fun _ _ f => f)) HBf.out (by simp) (i := fr + j) hfB (fun p hp => by cases hp) HX.out).mono ?_; rintro e w1 ⟨a1, c1, rfl, g1, g2⟩; have HO1 := Lib.hid g1; have HU1 := Lib.hid g2; clear g1 g2)
              | (go_at_call 72; refine (log_parse _ c1 HO1.out.row (by have := HO1.out.le.1; have := HO1.out.1; rw [length_bvs] at this; omega) HO1.out.le.2 (by have := HO1.out.1; rw [length_bvs] at this; omega) j (by omega) (HT.out.upd (HU.out.trans HU1.out (fun _ f _ => f.elim)) (fun f => f))).mono ?_; intro e w2 hg; rw [HSec.out] at hg; obtain ⟨g2, a2, c2, rfl, g3, g4, g5, g6⟩ := hg; have HU2 := Lib.hid g2; have HRow := Lib.hid g3; have HA2 := Lib.hid g6; have b2 := HB.out.upd (HU1.out.trans g2 (fun _ f _ => f)) (fun f => f); have c3 : w2.cell? ⟨l, 3, none⟩ = some (.int .i64 (first : Int)) := b2.cell 3; have c6 : w2.cell? ⟨l, 6, none⟩ = some (.slice a st.length c) := b2.cell 6; have f3 := b2.frozen 3; have f6 := b2.frozen 6; have HB2 := Lib.hid b2; clear g2 g3 g4 g5 g6 b2))
            go_meet
            have e1 : r = (j, first, st) := HGo.out.symm
            rw [e1]
            have uu := HU1.out.trans HU2.out (fun _ f _ => f)
            exact ⟨rfl, HU.out.trans uu (fun _ f _ => f.elim), Rs, a, c, HB.out.upd uu (fun f => f), HOw.out.keep uu, fun k hk => ⟨Fr.on uu.size k (HRs.out k hk).1, (HRs.out k hk).2⟩⟩
          · rw [if_neg hbr] at hgo3
            have hcase : j = 0 ∨ (0 < j ∧ f = first) := by omega
            clear hbr
            by_cases hsh : load.length < 112
            · rw [if_pos hsh] at hgo3
              have HGo := Lib.hid hgo3
              clear hgo3
              rcases hcase with rfl | ⟨hj1, hfe⟩
              · have q1 : ¬ (0 : Int) < ((0 : Nat) : Int) := by omega
                go_wp2_with (first
                  | (go_at_call 71; refine (disk_Read_at _ (HDk.out.upd HU.out (fun _ _ f => f)) HBf.out (by simp) (i := fr) hfB (fun p hp => by cases hp) HX.out).mono ?_; rintro e w1 ⟨a1, c1, rfl, g1, g2⟩; have HO1 := Lib.hid g1; have HU1 := Lib.hid g2; clear g1 g2)
                  | (go_at_call 72; refine (log_parse _ c1 HO1.out.row (by have := HO1.out.le.1; have := HO1.out.1; rw [length_bvs] at this; omega) HO1.out.le.2 (by have := HO1.out.1; rw [length_bvs] at this; omega) 0 (by omega) (HT.out.upd (HU.out.trans HU1.out (fun _ f _ => f.elim)) (fun f => f))).mono ?_; intro e w2 hg; rw [HSec.out] at hg; obtain ⟨g2, a2, c2, rfl, g3, g4, g5, g6⟩ := hg; have HU2 := Lib.hid g2; have HRow := Lib.hid g3; have HA2 := Lib.hid g6; have b2 := HB.out.upd (HU1.out.trans g2 (fun _ f _ => f)) (fun f => f); have c3 : w2.cell? ⟨l, 3, none⟩ = some (.int .i64 (first : Int)) := b2.cell 3; have c6 : w2.cell? ⟨l, 6, none⟩ = some (.slice a st.length c) := b2.cell 6; have f3 := b2.frozen 3; have f6 := b2.frozen 6; have HB2 := Lib.hid b2; clear g2 g3 g4 g5 g6 b2)
                  | (at_builtin; refine wpList_append_Own rfl (.tmp 95) (.tmp 96) 22 rfl Tryd.underlying22 hi0.out.1 hi0.out.2.1 hi0.out.2.2.1 hi0.out.2.2.2 rfl (by decide) rfl (HOw.out.upd ((HU1.out.trans HU2.out (fun _ f _ => f)).ofNil.setCell (p := ⟨l, 3, none⟩) (G := One l) (.inl rfl) _) HRl.out) rfl ((HRow.out.upd ((Upd.refl (One l) w2).setCell (p := ⟨l, 3, none⟩) (.inl rfl) _) (fun k hk (e : k = l) => absurd hk.1 (by have := HB.out.lt; omega)))) (by rw [length_bvs, Nat.mul_one]) (bvs_one _) HA2.out (by simp only [maxLen]; omega) (by omega) ?_; intro a3 c3' w3 g1 g2 _; have b3 := (HB2.out.set 3 (.int .i64 (f : Int))).upd g2 (fun q => HRl.out l q rfl); have d6 : w3.cell? ⟨l, 6, none⟩ = some (.slice a st.length c) := b3.cell 6; have df6 := b3.frozen 6; have HO3 := Lib.hid g1; have HU3 := Lib.hid g2; have HB3 := Lib.hid b3; clear g1 g2 b3 c6))
                go_meet
                have z1 := HU1.out.size
                have z2 := HU2.out.size
                have z3 := HU3.out.size
                have z0 := HU.out.size
                have zl : w.heap.size = l := HL.out
                rw [size_setCell] at z3
                have hown := HO3.out.upd ((Upd.refl (One l) w3).setCell (p := ⟨l, 6, none⟩) (.inl rfl) (.slice a3 (st.length + load.length) c3')) (fun k hk (e : k = l) => hk.elim (fun q => HRl.out k q e) (fun q => absurd q.1 (by have := HB2.out.lt; rw [size_setCell]; omega)))
                have hblk := HB3.out.set 6 (.slice a3 (st.length + load.length) c3')
                have hup : Upd Nil w (w3.setCell ⟨l, 6, none⟩ (.slice a3 (st.length + load.length) c3')) := ((((HU.out.trans HU1.out (fun _ f _ => f)).trans HU2.out (fun _ f _ => f)).setCell (p := ⟨l, 3, none⟩) (.inr (Nat.le_of_eq zl)) _).trans HU3.out (fun k hk hlt => absurd (HRs.out k hk).1.1 (by omega))).setCell (p := ⟨l, 6, none⟩) (.inr (Nat.le_of_eq zl)) _
                have hrs : ∀ k, (Rs k ∨ Fr (w2.setCell ⟨l, 3, none⟩ (.int .i64 (f : Int))) w3 k) → Fr w (w3.setCell ⟨l, 6, none⟩ (.slice a3 (st.length + load.length) c3')) k ∧ k ≠ l := fun k hk => by
                  rw [Fr, size_setCell]
                  rcases hk with q | q
                  · have h1 := (HRs.out k q).1
                    exact ⟨⟨h1.1, Nat.lt_of_lt_of_le h1.2 (by omega)⟩, (HRs.out k q).2⟩
                  · have h1 := q.1
                    rw [size_setCell] at h1
                    have h2 := HB2.out.lt
                    exact ⟨⟨by omega, q.2⟩, by omega⟩
                have e1 : r = (0 + 1, f, st ++ load) := HGo.out.symm
                rw [e1]
                refine ⟨by go_num, hup, fun k => Rs k ∨ Fr _ w3 k, a3, c3', ?_, ?_, hrs⟩
                · rw [List.length_append]; exact hblk
                · rw [List.length_append, bvs_append]; exact hown
              · have q1 : (0 : Int) < (j : Int) := by omega
                have q2 : ((f : Int) != (first : Int)) = false := by rw [hfe]; simp
                have q3 : ((f : Int) == (first : Int)) = true := by rw [hfe]; simp
                clear hfe
                go_wp2_with (first
                  | (go_at_call 71; refine (disk_Read_at _ (HDk.out.upd HU.out (fun _ _ f => f)) HBf.out (by simp) (i := fr + j) hfB (fun p hp => by cases hp) HX.out).mono ?_; rintro e w1 ⟨a1, c1, rfl, g1, g2⟩; have HO1 := Lib.hid g1; have HU1 := Lib.hid g2; clear g1 g2)
                  | (go_at_call 72; refine (log_parse _ c1 HO1.out.row (by have := HO1.out.le.1; have := HO1.out.1; rw [length_bvs] at this; omega) HO1.out.le.2 (by have := HO1.out.1; rw [length_bvs] at this; omega) j (by omega) (HT.out.upd (HU.out.trans HU1.out (fun _ f _ => f.elim)) (fun f => f))).mono ?_; intro e w2 hg; rw [HSec.out] at hg; obtain ⟨g2, a2, c2, rfl, g3, g4, g5, g6⟩ := hg; have HU2 := Lib.hid g2; have HRow := Lib.hid g3; have HA2 := Lib.hid g6; have b2 := HB.out.upd (HU1.out.trans g2 (fun _ f _ => f)) (fun f => f); have c3 : w2.cell? ⟨l, 3, none⟩ = some (.int .i64 (first : Int)) := b2.cell 3; have c6 : w2.cell? ⟨l, 6, none⟩ = some (.slice a st.length c) := b2.cell 6; have f3 := b2.frozen 3; have f6 := b2.frozen 6; have HB2 := Lib.hid b2; clear g2 g3 g4 g5 g6 b2)
                  | (at_builtin; refine wpList_append_Own rfl (.tmp 95) (.tmp 96) 22 rfl Tryd.underlying22 hi0.out.1 hi0.out.2.1 hi0.out.2.2.1 hi0.out.2.2.2 rfl (by decide) rfl (HOw.out.upd ((HU1.out.trans HU2.out (fun _ f _ => f)).ofNil.setCell (p := ⟨l, 3, none⟩) (G := One l) (.inl rfl) _) HRl.out) rfl ((HRow.out.upd ((Upd.refl (One l) w2).setCell (p := ⟨l, 3, none⟩) (.inl rfl) _) (fun k hk (e : k = l) => absurd hk.1 (by have := HB.out.lt; omega)))) (by rw [length_bvs, Nat.mul_one]) (bvs_one _) HA2.out (by simp only [maxLen]; omega) (by omega) ?_; intro a3 c3' w3 g1 g2 _; have b3 := (HB2.out.set 3 (.int .i64 (f : Int))).upd g2 (fun q => HRl.out l q rfl); have d6 : w3.cell? ⟨l, 6, none⟩ = some (.slice a st.length c) := b3.cell 6; have df6 := b3.frozen 6; have HO3 := Lib.hid g1; have HU3 := Lib.hid g2; have HB3 := Lib.hid b3; clear g1 g2 b3 c6))
                go_meet
                have z1 := HU1.out.size
                have z2 := HU2.out.size
                have z3 := HU3.out.size
                have z0 := HU.out.size
                have zl : w.heap.size = l := HL.out
                rw [size_setCell] at z3
                have hown := HO3.out.upd ((Upd.refl (One l) w3).setCell (p := ⟨l, 6, none⟩) (.inl rfl) (.slice a3 (st.length + load.length) c3')) (fun k hk (e : k = l) => hk.elim (fun q => HRl.out k q e) (fun q => absurd q.1 (by have := HB2.out.lt; rw [size_setCell]; omega)))
                have hblk := HB3.out.set 6 (.slice a3 (st.length + load.length) c3')
                have hup : Upd Nil w (w3.setCell ⟨l, 6, none⟩ (.slice a3 (st.length + load.length) c3')) := ((((HU.out.trans HU1.out (fun _ f _ => f)).trans HU2.out (fun _ f _ => f)).setCell (p := ⟨l, 3, none⟩) (.inr (Nat.le_of_eq zl)) _).trans HU3.out (fun k hk hlt => absurd (HRs.out k hk).1.1 (by omega))).setCell (p := ⟨l, 6, none⟩) (.inr (Nat.le_of_eq zl)) _
                have hrs : ∀ k, (Rs k ∨ Fr (w2.setCell ⟨l, 3, none⟩ (.int .i64 (f : Int))) w3 k) → Fr w (w3.setCell ⟨l, 6, none⟩ (.slice a3 (st.length + load.length) c3')) k ∧ k ≠ l := fun k hk => by
                  rw [Fr, size_setCell]
                  rcases hk with q | q
                  · have h1 := (HRs.out k q).1
                    exact ⟨⟨h1.1, Nat.lt_of_lt_of_le h1.2 (by omega)⟩, (HRs.out k q).2⟩
                  · have h1 := q.1
                    rw [size_setCell] at h1
                    have h2 := HB2.out.lt
                    exact ⟨⟨by omega, q.2⟩, by omega⟩
                have e1 : r = (j + 1, f, st ++ load) := HGo.out.symm
                rw [e1]
                refine ⟨by go_num, hup, fun k => Rs k ∨ Fr _ w3 k, a3, c3', ?_, ?_, hrs⟩
                · rw [List.length_append]; exact hblk
                · rw [List.length_append, bvs_append]; exact hown
            · rw [if_neg hsh] at hgo3
              have HGo := Lib.hid hgo3
              clear hgo3
              rcases hcase with rfl | ⟨hj1, hfe⟩
              · have q1 : ¬ (0 : Int) < ((0 : Nat) : Int) := by omega
                go_wp2_with (first
                  | (go_at_call 71; refine (disk_Read_at _ (HDk.out.upd HU.out (fun _ _ f => f)) HBf.out (by simp) (i := fr) hfB (fun p hp => by cases hp) HX.out).mono ?_; rintro e w1 ⟨a1, c1, rfl, g1, g2⟩; have HO1 := Lib.hid g1; have HU1 := Lib.hid g2; clear g1 g2)
                  | (go_at_call 72; refine (log_parse _ c1 HO1.out.row (by have := HO1.out.le.1; have := HO1.out.1; rw [length_bvs] at this; omega) HO1.out.le.2 (by have := HO1.out.1; rw [length_bvs] at this; omega) 0 (by omega) (HT.out.upd (HU.out.trans HU1.out (fun _ f _ => f.elim)) (fun f => f))).mono ?_; intro e w2 hg; rw [HSec.out] at hg; obtain ⟨g2, a2, c2, rfl, g3, g4, g5, g6⟩ := hg; have HU2 := Lib.hid g2; have HRow := Lib.hid g3; have HA2 := Lib.hid g6; have b2 := HB.out.upd (HU1.out.trans g2 (fun _ f _ => f)) (fun f => f); have c3 : w2.cell? ⟨l, 3, none⟩ = some (.int .i64 (first : Int)) := b2.cell 3; have c6 : w2.cell? ⟨l, 6, none⟩ = some (.slice a st.length c) := b2.cell 6; have f3 := b2.frozen 3; have f6 := b2.frozen 6; have HB2 := Lib.hid b2; clear g2 g3 g4 g5 g6 b2)
                  | (at_builtin; refine wpList_append_Own rfl (.tmp 95) (.tmp 96) 22 rfl Tryd.underlying22 hi0.out.1 hi0.out.2.1 hi0.out.2.2.1 hi0.out.2.2.2 rfl (by decide) rfl (HOw.out.upd ((HU1.out.trans HU2.out (fun _ f _ => f)).ofNil.setCell (p := ⟨l, 3, none⟩) (G := One l) (.inl rfl) _) HRl.out) rfl ((HRow.out.upd ((Upd.refl (One l) w2).setCell (p := ⟨l, 3, none⟩) (.inl rfl) _) (fun k hk (e : k = l) => absurd hk.1 (by have := HB.out.lt; omega)))) (by rw [length_bvs, Nat.mul_one]) (bvs_one _) HA2.out (by simp only [maxLen]; omega) (by omega) ?_; intro a3 c3' w3 g1 g2 _; have b3 := (HB2.out.set 3 (.int .i64 (f : Int))).upd g2 (fun q => HRl.out l q rfl); have d6 : w3.cell? ⟨l, 6, none⟩ = some (.slice a st.length c) := b3.cell 6; have df6 := b3.frozen 6; have HO3 := Lib.hid g1; have HU3 := Lib.hid g2; have HB3 := Lib.hid b3; clear g1 g2 b3 c6))
                go_roundg gk'
                · skip
                  have z1 := HU1.out.size
                  have z2 := HU2.out.size
                  have z3 := HU3.out.size
                  have z0 := HU.out.size
                  have zl : w.heap.size = l := HL.out
                  rw [size_setCell] at z3
                  have hown := HO3.out.upd ((Upd.refl (One l) w3).setCell (p := ⟨l, 6, none⟩) (.inl rfl) (.slice a3 (st.length + load.length) c3')) (fun k hk (e : k = l) => hk.elim (fun q => HRl.out k q e) (fun q => absurd q.1 (by have := HB2.out.lt; rw [size_setCell]; omega)))
                  have hblk := HB3.out.set 6 (.slice a3 (st.length + load.length) c3')
                  have hup : Upd Nil w (w3.setCell ⟨l, 6, none⟩ (.slice a3 (st.length + load.length) c3')) := ((((HU.out.trans HU1.out (fun _ f _ => f)).trans HU2.out (fun _ f _ => f)).setCell (p := ⟨l, 3, none⟩) (.inr (Nat.le_of_eq zl)) _).trans HU3.out (fun k hk hlt => absurd (HRs.out k hk).1.1 (by omega))).setCell (p := ⟨l, 6, none⟩) (.inr (Nat.le_of_eq zl)) _
                  have hrs : ∀ k, (Rs k ∨ Fr (w2.setCell ⟨l, 3, none⟩ (.int .i64 (f : Int))) w3 k) → Fr w (w3.setCell ⟨l, 6, none⟩ (.slice a3 (st.length + load.length) c3')) k ∧ k ≠ l := fun k hk => by
                    rw [Fr, size_setCell]
                    rcases hk with q | q
                    · have h1 := (HRs.out k q).1
                      exact ⟨⟨h1.1, Nat.lt_of_lt_of_le h1.2 (by omega)⟩, (HRs.out k q).2⟩
                    · have h1 := q.1
                      rw [size_setCell] at h1
                      have h2 := HB2.out.lt
                      exact ⟨⟨by omega, q.2⟩, by omega⟩
                  have hj := HJ.out
                  refine ⟨0 + 1, f, st ++ load, by omega, by go_num, by go_num, HGo.out, by rw [List.length_append]; omega, HF1.out, HF2.out, hup, fun k => Rs k ∨ Fr _ w3 k, a3, c3', ?_, ?_, hrs⟩
                  · rw [List.length_append]; exact hblk
                  · rw [List.length_append, bvs_append]; exact hown
                · omega
              · have q1 : (0 : Int) < (j : Int) := by omega
                have q2 : ((f : Int) != (first : Int)) = false := by rw [hfe]; simp
                have q3 : ((f : Int) == (first : Int)) = true := by rw [hfe]; simp
                clear hfe
                go_wp2_with (first
                  | (go_at_call 71; refine (disk_Read_at _ (HDk.out.upd HU.out (fun _ _ f => f)) HBf.out (by simp) (i := fr + j) hfB (fun p hp => by cases hp) HX.out).mono ?_; rintro e w1 ⟨a1, c1, rfl, g1, g2⟩; have HO1 := Lib.hid g1; have HU1 := Lib.hid g2; clear g1 g2)
                  | (go_at_call 72; refine (log_parse _ c1 HO1.out.row (by have := HO1.out.le.1; have := HO1.out.1; rw [length_bvs] at this; omega) HO1.out.le.2 (by have := HO1.out.1; rw [length_bvs] at this; omega) j (by omega) (HT.out.upd (HU.out.trans HU1.out (fun _ f _ => f.elim)) (fun f => f))).mono ?_; intro e w2 hg; rw [HSec.out] at hg; obtain ⟨g2, a2, c2, rfl, g3, g4, g5, g6⟩ := hg; have HU2 := Lib.hid g2; have HRow := Lib.hid g3; have HA2 := Lib.hid g6; have b2 := HB.out.upd (HU1.out.trans g2 (fun _ f _ => f)) (fun f => f); have c3 : w2.cell? ⟨l, 3, none⟩ = some (.int .i64 (first : Int)) := b2.cell 3; have c6 : w2.cell? ⟨l, 6, none⟩ = some (.slice a st.length c) := b2.cell 6; have f3 := b2.frozen 3; have f6 := b2.frozen 6; have HB2 := Lib.hid b2; clear g2 g3 g4 g5 g6 b2)
                  | (at_builtin; refine wpList_append_Own rfl (.tmp 95) (.tmp 96) 22 rfl Tryd.underlying22 hi0.out.1 hi0.out.2.1 hi0.out.2.2.1 hi0.out.2.2.2 rfl (by decide) rfl (HOw.out.upd ((HU1.out.trans HU2.out (fun _ f _ => f)).ofNil.setCell (p := ⟨l, 3, none⟩) (G := One l) (.inl rfl) _) HRl.out) rfl ((HRow.out.upd ((Upd.refl (One l) w2).setCell (p := ⟨l, 3, none⟩) (.inl rfl) _) (fun k hk (e : k = l) => absurd hk.1 (by have := HB.out.lt; omega)))) (by rw [length_bvs, Nat.mul_one]) (bvs_one _) HA2.out (by simp only [maxLen]; omega) (by omega) ?_; intro a3 c3' w3 g1 g2 _; have b3 := (HB2.out.set 3 (.int .i64 (f : Int))).upd g2 (fun q => HRl.out l q rfl); have d6 : w3.cell? ⟨l, 6, none⟩ = some (.slice a st.length c) := b3.cell 6; have df6 := b3.frozen 6; have HO3 := Lib.hid g1; have HU3 := Lib.hid g2; have HB3 := Lib.hid b3; clear g1 g2 b3 c6))
                go_roundg gk'
                · skip
                  have z1 := HU1.out.size
                  have z2 := HU2.out.size
                  have z3 := HU3.out.size
                  have z0 := HU.out.size
                  have zl : w.heap.size = l := HL.out
                  rw [size_setCell] at z3
                  have hown := HO3.out.upd ((Upd.refl (One l) w3).setCell (p := ⟨l, 6, none⟩) (.inl rfl) (.slice a3 (st.length + load.length) c3')) (fun k hk (e : k = l) => hk.elim (fun q => HRl.out k q e) (fun q => absurd q.1 (by have := HB2.out.lt; rw [size_setCell]; omega)))
                  have hblk := HB3.out.set 6 (.slice a3 (st.length + load.length) c3')
                  have hup : Upd Nil w (w3.setCell ⟨l, 6, none⟩ (.slice a3 (st.length + load.length) c3')) := ((((HU.out.trans HU1.out (fun _ f _ => f)).trans HU2.out (fun _ f _ => f)).setCell (p := ⟨l, 3, none⟩) (.inr (Nat.le_of_eq zl)) _).trans HU3.out (fun k hk hlt => absurd (HRs.out k hk).1.1 (by omega))).setCell (p := ⟨l, 6, none⟩) (.inr (Nat.le_of_eq zl)) _
                  have hrs : ∀ k, (Rs k ∨ Fr (w2.setCell ⟨l, 3, none⟩ (.int .i64 (f : Int))) w3 k) → Fr w (w3.setCell ⟨l, 6, none⟩ (.slice a3 (st.length + load.length) c3')) k ∧ k ≠ l := fun k hk => by
                    rw [Fr, size_setCell]
                    rcases hk with q | q
                    · have h1 := (HRs.out k q).1
                      exact ⟨⟨h1.1, Nat.lt_of_lt_of_le h1.2 (by omega)⟩, (HRs.out k q).2⟩
                    · have h1 := q.1
                      rw [size_setCell] at h1
                      have h2 := HB2.out.lt
                      exact ⟨⟨by omega, q.2⟩, by omega⟩
                  have hj := HJ.out
                  refine ⟨j + 1, f, st ++ load, by omega, by go_num, by go_num, HGo.out, by rw [List.length_append]; omega, HF1.out, HF2.out, hup, fun k => Rs k ∨ Fr _ w3 k, a3, c3', ?_, ?_, hrs⟩
                  · rw [List.length_append]; exact hblk
                  · rw [List.length_append, bvs_append]; exact hown
                · omega
  case rest =>
    obtain ⟨rfl, hup, Rs, a, c, hb, hown, hrs⟩ := hcut
    have hfacts := openGo_facts rd sectors 0 1 [] (Nat.zero_le _) (Nat.le_refl _) (by decide)
    rw [HR2.out] at hfacts
    have hst := HRc.out.1
    obtain ⟨first, hfi⟩ : ∃ f, r.2.1 = f := ⟨_, rfl⟩
    obtain ⟨used, hus⟩ : ∃ u, r.1 = u := ⟨_, rfl⟩
    rw [hst] at hb hown hfacts
    rw [hfi] at hb hfacts
    rw [hus] at hfacts
    obtain ⟨hst1, hus1, hf1, hf2⟩ := hfacts
    have hsf := splitL_facts _ st0 (Nat.le_refl _)
    obtain ⟨n, hn⟩ : ∃ n, (splitL st0).2 = n := ⟨_, rfl⟩
    have hrc := HRc.out.2
    rw [hn, hrc] at hsf
    have hst2 : st0.length ≤ 458752 := by omega
    have hSs : S = { fr := fr, sectors := sectors, first := first, last := first + recs.length - 1, forced := first + recs.length - 1, stream := st0.take n, durable := n } := by
      rw [← HS.out, openS, HR.out, hst, hfi, hn, hrc]
    have hSp := log_split wc c hown.row (by omega)
    rw [hn, hrc] at hSp
    have HSp := Lib.hid hSp
    have HUp := Lib.hid hup
    have HB := Lib.hid hb
    have HOw := Lib.hid hown
    have HRs := Lib.hid hrs
    have HSs := Lib.hid hSs
    have HEq := Lib.hid (And.intro hst (And.intro hfi (And.intro hus (And.intro hn hrc))))
    have c6 : wc.cell? ⟨l, 6, none⟩ = some (.slice a st0.length c) := hb.cell 6
    have hac : (a = none ∧ st0.length = 0 ∧ c = 0) ∨ (∃ g, a = some ⟨g, 0, none⟩) := by
      rcases hown.2 with q | ⟨g, cur, e, _⟩
      · exact .inl q
      · exact .inr ⟨g, e⟩
    have hlc : st0.length ≤ c := hown.le.1
    have hn2 : n ≤ c := by omega
    rw [hus]
    clear hup hb hown hrs hSs hSp hst hfi hus hn hrc
    have hcf : CFine { fr := fr, sectors := sectors, first := first, last := 0, forced := 0, stream := st0.take n, durable := n } B used st0.length :=
      ⟨hs, hle, by show n = (st0.take n).length; rw [List.length_take]; omega, hsf.1, hst1, by show used ≤ sectors; omega, hf1, hf2⟩
    have HCf := Lib.hid hcf
    have hrl : recs.length ≤ 458752 := by omega
    have s1 : IntKind.i64.wrap ((first : Int) + (recs.length : Int)) = ((first + recs.length : Nat) : Int) := by rw [IntWalk.i64_in _ (by omega)]; rfl
    have s2 : IntKind.i64.wrap (((first + recs.length : Nat) : Int) - 1) = ((first + recs.length - 1 : Nat) : Int) := by rw [IntWalk.i64_in _ (by omega)]; omega
    have s3 : IntKind.i64.wrap ((first : Int) + (recs.length : Int) - 1) = ((first + recs.length - 1 : Nat) : Int) := by rw [IntWalk.i64_in _ (by omega)]; omega
    have HF2 := Lib.hid hf2
    have HF1 := Lib.hid hf1
    clear hcf hf1 hf2 hst1 hus1
    go_wp2_with (first
      | (go_at_call 73; refine HSp.out.mono ?_; rintro e w1 ⟨R1, E1, a1, c1, vs, rfl, g1, g2, g3, g4⟩; have b2 := HB.out.upd g4 (fun f => f); have d6 : w1.cell? ⟨l, 6, none⟩ = some (.slice a st0.length c) := b2.cell 6; have d7 : w1.cell? ⟨l, 7, none⟩ = some (.int .i64 0) := b2.cell 7; have f6 := b2.frozen 6; have f7 := b2.frozen 7; have HB1 := Lib.hid b2; have HRw := Lib.hid g1; have HR1 := Lib.hid g2; have HE1 := Lib.hid g3; have HU1 := Lib.hid g4; clear g1 g2 g3 g4 b2)
      | (go_at_call 74; refine (log_clean _ (open_LD HDk.out H0.out HL.out HUp.out HU1.out HB1.out HOw.out HRs.out hsf.1 hst2) HCf.out HBf.out (HT.out.upd (((HUp.out.trans HU1.out (fun _ f _ => f)).setCell (p := ⟨l, 6, none⟩) (.inr (Nat.le_of_eq HL.out)) _).setCell (p := ⟨l, 7, none⟩) (.inr (Nat.le_of_eq HL.out)) _) (fun f => f))).mono ?_; rintro e w3 ⟨rfl, F3, ⟨h0, FL, FD3, hL, hD, ⟨R3, a3, c3, k1, k2, k3, k4⟩, hdk⟩, g2, g3⟩; have e3 : w3.cell? ⟨l, 3, none⟩ = some (.int .i64 (first : Int)) := k3.cell 3; have e4 : w3.cell? ⟨l, 4, none⟩ = some (.int .i64 0) := k3.cell 4; have e5 : w3.cell? ⟨l, 5, none⟩ = some (.int .i64 0) := k3.cell 5; have f4 := k3.frozen 4; have f5 := k3.frozen 5; have HP := Lib.hid (And.intro h0 (And.intro hL (And.intro hD (And.intro k1 (And.intro k2 (And.intro k3 (And.intro k4 hdk))))))); have HG2 := Lib.hid g2; have HG3 := Lib.hid g3; clear h0 hL hD k1 k2 k3 k4 hdk g2 g3))
    go_ret3
    obtain ⟨q0, qL, qD, k1, k2, k3, k4, hdk⟩ := HP.out
    have z1 := HUp.out.size
    have z2 := HU1.out.size
    have z3 := HG2.out.size
    have hlw := HL.out
    have hlc := HB.out.lt
    rw [size_setCell, size_setCell] at z3
    have one : Upd (One l) w3 ((w3.setCell ⟨l, 4, none⟩ (.int .i64 ((first + recs.length - 1 : Nat) : Int))).setCell ⟨l, 5, none⟩ (.int .i64 ((first + recs.length - 1 : Nat) : Int))) := ((Upd.refl (One l) w3).setCell (p := ⟨l, 4, none⟩) (.inl rfl) _).setCell (p := ⟨l, 5, none⟩) (.inl rfl) _
    have two : Upd (One l) w1 ((w1.setCell ⟨l, 6, none⟩ (.slice a n n)).setCell ⟨l, 7, none⟩ (.int .i64 (n : Int))) := ((Upd.refl (One l) w1).setCell (p := ⟨l, 6, none⟩) (.inl rfl) _).setCell (p := ⟨l, 7, none⟩) (.inl rfl) _
    have z4 : ((w3.setCell ⟨l, 4, none⟩ (.int .i64 ((first + recs.length - 1 : Nat) : Int))).setCell ⟨l, 5, none⟩ (.int .i64 ((first + recs.length - 1 : Nat) : Int))).heap.size = w3.heap.size := by rw [size_setCell, size_setCell]
    have h0up : Upd Nil w ((w1.setCell ⟨l, 6, none⟩ (.slice a n n)).setCell ⟨l, 7, none⟩ (.int .i64 (n : Int))) := ((HUp.out.trans HU1.out (fun _ f _ => f)).setCell (p := ⟨l, 6, none⟩) (.inr (Nat.le_of_eq HL.out)) _).setCell (p := ⟨l, 7, none⟩) (.inr (Nat.le_of_eq HL.out)) _
    have hRs : ∀ k, Rs k → w.heap.size ≤ k ∧ k < wc.heap.size ∧ k ≠ l := fun k hk => ⟨(HRs.out k hk).1.1, (HRs.out k hk).1.2, (HRs.out k hk).2⟩
    have hF3 : ∀ k, F3 k → FD k ∨ Fr w w3 k := fun k hk => by
      rcases HG3.out k hk with (q | q | q) | q
      · exact .inl q.1
      · exact .inr ⟨by omega, by omega⟩
      · have := hRs k q; exact .inr ⟨by omega, by omega⟩
      · have h1 := q.1
        rw [size_setCell, size_setCell] at h1
        exact .inr ⟨by omega, q.2⟩
    have hnew : ∀ k, Fr wc w1 k → Fr w w3 k ∧ k ≠ l ∧ ¬ F3 k ∧ ¬ ((FD k ∧ k < w.heap.size) ∨ k = l ∨ Rs k) := fun k hk => by
      have h1 := hk.1
      have h2 := hk.2
      have hno : ¬ ((FD k ∧ k < w.heap.size) ∨ k = l ∨ Rs k) := by
        rintro (q | q | q)
        · omega
        · omega
        · have := hRs k q; omega
      refine ⟨⟨by omega, by omega⟩, by omega, fun q => ?_, hno⟩
      rcases HG3.out k q with q | q
      · exact hno q
      · have h3 := q.1
        rw [size_setCell, size_setCell] at h3
        omega
    have hSS : S = { fr := fr, sectors := sectors, first := first, last := first + recs.length - 1, forced := first + recs.length - 1, stream := st0.take n, durable := n } := HSs.out
    have hWW : WW = cleanW { fr := fr, sectors := sectors, first := first, last := 0, forced := 0, stream := st0.take n, durable := n } B used st0.length := by
      rw [← HWW.out, openW, HS.out, HR.out, HEq.out.1, HEq.out.2.2.1, hSS]
      rfl
    have hrw := ((HRw.out.far two (fun k hk e => (hnew k (HR1.out k hk)).2.1 e) (fun k hk e => (hnew k (HE1.out k hk)).2.1 e)).far HG2.out (fun k hk => (hnew k (HR1.out k hk)).2.2.2) (fun k hk => (hnew k (HE1.out k hk)).2.2.2)).far one (fun k hk e => (hnew k (HR1.out k hk)).2.1 e) (fun k hk e => (hnew k (HE1.out k hk)).2.1 e)
    refine ⟨l, R1, E1, a1, c1, vs, rfl, F3, ⟨q0, FL, FD3, fun k hk => ⟨(qL k hk).1, (qL k hk).2.1, by have := (qL k hk).2.2; omega⟩, fun k hk => ⟨(qD k hk).1, by have := (qD k hk).2; omega⟩, ⟨R3, a3, c3, k1, fun k hk => ⟨(k2 k hk).1, (k2 k hk).2.1, by have := (k2 k hk).2.2; omega⟩, ?_, ?_⟩, ?_⟩, ?_, fun k hk => (hF3 k hk).imp id (Fr.on (Nat.le_of_eq z4.symm) k), hrw, fun k hk => ⟨Fr.on (Nat.le_of_eq z4.symm) k (hnew k (HR1.out k hk)).1, (hnew k (HR1.out k hk)).2.2.1⟩, fun k hk => ⟨Fr.on (Nat.le_of_eq z4.symm) k (hnew k (HE1.out k hk)).1, (hnew k (HE1.out k hk)).2.2.1⟩⟩
    · rw [hSS]
      exact (k3.set 4 (.int .i64 ((first + recs.length - 1 : Nat) : Int))).set 5 (.int .i64 ((first + recs.length - 1 : Nat) : Int))
    · rw [hSS]
      exact k4.upd one (fun k hk e => (k2 k hk).2.1 e)
    · rw [hWW]
      exact hdk.upd one (fun k hk e => (qL l k1).2.1 (by rw [← show k = l from e]; exact hk))
    · refine (h0up.ofNil.trans HG2.out (fun k hk hlt => ?_)).trans one (fun k hk hlt => absurd hlt (by rw [show k = l from hk]; omega))
      rcases hk with q | q | q
      · exact q.1
      · omega
      · have := hRs k q; omega
end Go.Proofs.YtbaombnnagidcaaDoor
