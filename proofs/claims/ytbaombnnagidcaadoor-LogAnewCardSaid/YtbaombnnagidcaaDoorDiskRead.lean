/- The disk's Read: the last write of a sector, or what is durable. -/
import Derived.Test.YtbaombnnagidcaaDoorBackward
import Derived.Test.YtbaombnnagidcaaDoorDisk2
import Derived.Test.YtbaombnnagidcaaDoorMake
namespace Go.Proofs.YtbaombnnagidcaaDoor
open Go.RowKit Go.Shelf
attribute [local go_sem] Oper.semAt_some

/-- what is read: the last write of sector i, or what is durable there -/
def readOf (B : List (List UInt8)) (P : List Snt) (i : Nat) (hi : i < B.length) : List UInt8 := ((P.reverse.find? (fun p => p.1 == i)).map (·.2)).getD B[i]

/-- no write of the places in l goes to sector i -/
def Misses (P : List Snt) (i : Nat) (l : List (Fin P.length)) : Prop := ∀ j ∈ l, (P[j.1]).1 ≠ i

theorem readOf_miss {B : List (List UInt8)} {P : List Snt} {i : Nat} (hi : i < B.length) (h : ∀ j (hj : j < P.length), (P[j]).1 ≠ i) : readOf B P i hi = B[i] := by
  have : P.reverse.find? (fun p => p.1 == i) = none := by
    rw [List.find?_eq_none]
    intro p hp
    obtain ⟨j, hj, rfl⟩ := List.getElem_of_mem (List.mem_reverse.1 hp)
    simpa using h j hj
  simp [readOf, this]
theorem readOf_hit {B : List (List UInt8)} {P : List Snt} {i : Nat} (hi : i < B.length) {j0 : Nat} (h0 : j0 < P.length) (h : (P[j0]).1 = i) (hl : ∀ j (hj : j < P.length), j0 < j → (P[j]).1 ≠ i) : readOf B P i hi = (P[j0]).2 := by
  have hsplit : P = P.take j0 ++ P[j0] :: P.drop (j0 + 1) := by rw [← List.drop_eq_getElem_cons h0, List.take_append_drop]
  have hnone : (P.drop (j0 + 1)).reverse.find? (fun p => p.1 == i) = none := by
    rw [List.find?_eq_none]
    intro p hp
    obtain ⟨j, hj, rfl⟩ := List.getElem_of_mem (List.mem_reverse.1 hp)
    rw [List.getElem_drop]
    simp only [List.length_drop] at hj
    simpa using hl (j0 + 1 + j) (by omega) (by omega)
  have : P.reverse.find? (fun p => p.1 == i) = some P[j0] := by
    have e : P.reverse = (P.drop (j0 + 1)).reverse ++ (P[j0] :: (P.take j0).reverse) := by
      conv => lhs; rw [hsplit]
      simp
    rw [e, List.find?_append, hnone, List.find?_cons_of_pos (by simp [h])]
    rfl
  simp [readOf, this]
theorem backs_last {m k : Nat} (hk : k ≤ m) {pre : List (Fin m)} {j0 : Fin m} (h : backs m k = pre ++ [j0]) : ∀ j : Fin m, j0 < j → j ∈ pre := by
  match k, hk with
  | 0, _ => simp [backs] at h
  | k + 1, hk =>
    rw [backs_succ m k hk] at h
    obtain ⟨rfl, e⟩ := List.append_inj' h rfl
    injection e with e
    intro j hj
    rw [mem_backs (by omega)]
    rw [← e] at hj
    have : m - 1 - k < j.1 := hj
    omega

/-- a region that neither leaves nor panics -/
theorem wp_calm {P : Program} {c : Code} {Q : Exit → Act → World → Prop} {a : Act} {w : World} (h : c.wp P (Exit.then (Q .normal) (fun _ _ _ => False)) a w) : c.wp P Q a w :=
  wp_mono h (fun e a w h => by cases e <;> first | exact h | exact h.elim)

theorem own_from {F : Nat → Prop} {W W' : World} {t : TypeId} {sz : Nat} {a : Option Addr} {n c : Nat} {cs : List Value} {row : Option Nat} (h : Own F W t sz a n c cs) (hg : W.grownBy W' row) (hr : ∀ r, row = some r → ∃ o : Obj, W.heap[r]? = some o ∧ o.isCells = false) : Own F W' t sz a n c cs := by
  refine ⟨h.1, ?_⟩
  rcases h.2 with h | ⟨g, cur, h1, h2, h3, h4⟩
  · exact .inl h
  · refine .inr ⟨g, cur, h1, h2, (hg.block g (Array.getElem?_eq_some_iff.1 h3).1 (fun e => ?_)).trans h3, h4⟩
    obtain ⟨_, ho, hc⟩ := hr g e.symm
    rw [h3] at ho
    cases ho
    cases hc

theorem Upd.others {W W' : World} (h : Upd Nil W W') : KeepsOthers W W' := ⟨h.size, fun k _ hk _ => (h.block k (Array.getElem?_eq_some_iff.1 hk).1 (fun f => f)).trans hk⟩

set_option maxRecDepth 100000 in
set_option maxHeartbeats 2000000 in
theorem disk_Read_yes {F : Nat → Prop} (w : World) {s : Nat} {B : List (List UInt8)} {P : List Snt} (h : DiskRep F w s B P) (hfine : Fine B P) (hP : P.length ≤ 4000000000000) {i : Nat} (hi : i < B.length) :
    Calls Tryd.prog 71 #[.pointer (some ⟨s, 0, none⟩), .int .i64 i] w (ToldBytes w (readOf B P i hi)) := by
  obtain ⟨W0, hW0⟩ : ∃ W0, ((w.alloc (.cells #[.int .i64 i] 3)).alloc (.cells #[.slice none 0 0] 22)).alloc (.cells #[.int .i64 0] 30) = W0 := ⟨_, rfl⟩
  have hu : Upd Nil w W0 := by rw [← hW0]; exact (((Upd.refl Nil w).alloc _).alloc _).alloc _
  have H0 := Lib.hid (disk_look_yes W0 (h.upd hu (fun _ _ f => f)) hi)
  have HRep := Lib.hid h
  obtain ⟨R, Q, E, al, cl, vs, p, d, us, hFs, hR, hQ, hE, hb, hown, hq, hall, hsent⟩ := h
  have hs := hb.lt
  have hc1 : W0.cell? ⟨s, 1, none⟩ = some (.slice p P.length d) := (hb.upd hu (fun f => f)).cell 1
  have HU := Lib.hid hu
  have HQ := Lib.hid hq
  have HS := Lib.hid hsent
  have HQs := Lib.hid hQ
  have HEs := Lib.hid hE
  have HA := Lib.hid hall
  have HO := Lib.hid hown
  have HB := Lib.hid hb
  have b0 : Boxed W0 w.heap.size 3 (.int .i64 i) := by rw [← hW0]; exact ((Boxed.new w _ _).alloc _).alloc _
  have b1 : Boxed W0 (w.heap.size + 1) 22 (.slice none 0 0) := by rw [← hW0]; have := Boxed.new (w.alloc (.cells #[.int .i64 i] 3)) 22 (.slice none 0 0); rw [World.size_alloc] at this; exact this.alloc _
  have b2 : Boxed W0 (w.heap.size + 2) 30 (.int .i64 0) := by rw [← hW0]; have := Boxed.new ((w.alloc (.cells #[.int .i64 i] 3)).alloc (.cells #[.slice none 0 0] 22)) 30 (.int .i64 0); rw [World.size_alloc, World.size_alloc] at this; exact this
  have hsz : W0.heap.size = w.heap.size + 3 := by rw [← hW0]; simp
  have HZ := Lib.hid hsz
  have HF := Lib.hid hfine
  clear hu hR hQ hE hb hown hq hall hsent hsz hfine
  have c0 := b0.cell
  refine (callsIn_wide (n := 4)).1 ?_
  refine callsIn_of_wp_marks Tryd.func71 rfl trivial ?_ rfl
  simp only [Tryd.ntmps71, List.size_toArray, List.length_cons, List.length_nil, Nat.reduceAdd, Nat.reduceSub, Array.replicate_succ, Array.replicate_zero, List.push_toArray, List.append_toArray, List.nil_append, List.cons_append]
  refine wpIn_wide.2 ?_
  go_wp2_with (first
    | (go_at_call 99; refine H0.out.mono ?_; rintro e w' ⟨rfl, rfl⟩)
    | (go_at_call 100; refine (callsIn_wide.1 (backward_in Fence.wide 3 trivial rfl _ _ _ _)).mono ?_; rintro e w' ⟨rfl, rfl⟩))
  refine (wpIn_wide (n := 4)).1 ?_
  obtain ⟨W1, hW1⟩ : ∃ W1, W0.alloc (.cells #[.slice p P.length d] 74) = W1 := ⟨_, rfl⟩
  have hu1 : Upd Nil W0 W1 := by rw [← hW1]; exact (Upd.refl Nil W0).alloc _
  have hbx : W1.cell? ⟨W0.heap.size, 0, none⟩ = some (.slice p P.length d) := by rw [← hW1]; exact (Blk.new W0 74 #[.slice p P.length d]).cell 0
  have hz1 : W1.heap.size = w.heap.size + 4 := by rw [← hW1]; simp [HZ.out]
  rw [hW1]
  clear hW1
  have b0' : Boxed W1 w.heap.size 3 (.int .i64 i) := hu1.heap b0 (fun f => f)
  have b1' : Boxed W1 (w.heap.size + 1) 22 (.slice none 0 0) := hu1.heap b1 (fun f => f)
  have b2' : Boxed W1 (w.heap.size + 2) 30 (.int .i64 0) := hu1.heap b2 (fun f => f)
  obtain ⟨S, A, N, C, hcols⟩ := HS.out.cols
  have HC := Lib.hid hcols
  have huw : Upd Nil w W1 := HU.out.trans hu1 (fun _ f _ => f)
  have HUW := Lib.hid huw
  have hBw := Upd.below huw
  clear hcols huw
  refine wpIn_rangeFunc_ownH (α := Fin P.length) rfl (by omega) (gf := 120) (lb := #[.pointer (some ⟨W0.heap.size, 0, none⟩)]) rfl trivial (enters_of Tryd.func120 (by kernel_rfl) rfl)
    (backward_stops Fence.wide (4 - 1) trivial rfl (by omega) (n₀ := W1.heap.size) hP W1 (by have := HZ.out; omega) (Nat.le_refl _) hbx (HQ.out.keep HUW.out) (fun k hk => by have := (HQs.out k hk).2.2.2; omega) (fun j => .int .i64 (S j)) (fun j => .slice (A j) (N j) (C j)) (fun j hj => ⟨(HC.out j hj).1, (HC.out j hj).2.1⟩)) belowK_t (belowK_b (Nat.le_refl _)) (Below.refl _ _) (fun _ => rfl)
    (fun pre W => Misses P i pre ∧ Below W1.heap.size W1 W)
    (fun c pre W => c = .ret ∧ ∃ (j0 : Fin P.length) (pre0 : List (Fin P.length)) (a1 : Option Addr) (c1 : Nat), (pre = pre0 ++ [j0] ∧ Misses P i pre0 ∧ (P[j0.1]).1 = i) ∧ Boxed W (w.heap.size + 1) 22 (.slice a1 (P[j0.1]).2.length c1) ∧ Boxed W (w.heap.size + 2) 30 (.int .i64 0) ∧ Own (fun k => w.heap.size ≤ k) W 5 1 a1 (P[j0.1]).2.length c1 (bvs (P[j0.1]).2) ∧ Below w.heap.size w W)
    (OwnFrom.and (ownFrom_pure _ _) (ownFrom_below (Nat.le_refl _) (Nat.le_refl _)))
    (fun c pre X Y row hs hg hr => by
      obtain ⟨e, j0, pre0, a1, c1, h1, h2, h3, h4, h5⟩ := hs
      exact ⟨e, j0, pre0, a1, c1, h1, boxed_own _ _ (fun (_ : Unit) => Value.slice a1 (P[j0.1]).2.length c1) () X Y row h2 hg (fun r e => (hr r e).2), boxed_own _ _ (fun (_ : Unit) => Value.int .i64 0) () X Y row h3 hg (fun r e => (hr r e).2), own_from h4 hg (fun r e => (hr r e).2), ownFrom_below (β := Unit) (Nat.le_refl _) (by omega) () X Y row h5 hg hr⟩)
    ⟨(fun j hj => by cases hj), Below.refl _ _⟩
    (fun x a' W => ∃ Bx, W1.heap.size ≤ Bx ∧ Blk W Bx 145 #[.int .i64 (S x.1), .slice (A x.1) (N x.1) (C x.1)] ∧ a' = { tmps := #[.pointer (some ⟨s, 0, none⟩), .int .i64 i, undef, .pointer (some ⟨w.heap.size, 0, none⟩), .pointer (some ⟨w.heap.size + 1, 0, none⟩), .pointer (some ⟨w.heap.size + 1 + 1, 0, none⟩), .int .i64 0, undef, .pointer (some ⟨Bx, 0, none⟩), .pointer (some ⟨s, 0, none⟩), .int .i64 i, .int .i64 0, .int .i64 0, .bool false, undef, .pointer (some ⟨s, 0, none⟩), .pointer (some ⟨s, 0, none⟩), .pointer (some ⟨s, 1, none⟩), .slice p P.length d, .func (.func 120) #[] #[.pointer (some ⟨W0.heap.size, 0, none⟩)], .int .i64 (x.1 : Int), .agg #[.int .i64 (S x.1), .slice (A x.1) (N x.1) (C x.1)], undef, undef, undef, undef, undef, undef, undef, undef, undef, undef, undef, undef, undef, undef, undef, undef], defers := [] })
    (fun x a' _ X Y row hs hg hr => by
      obtain ⟨Bx, e1, e2, e3⟩ := hs
      refine ⟨Bx, e1, (hg.block Bx e2.lt (fun e => ?_)).trans e2, e3⟩
      obtain ⟨_, o, ho, hc⟩ := hr Bx e.symm
      rw [show X.heap[Bx]? = _ from e2] at ho
      cases ho
      cases hc)
    ?assign ?body ?done ?stop
  case assign =>
    rintro l pre x W K ⟨hM, hB1⟩ hK
    gi_wp2
    exact hK _ _ ((KeepsOthers.alloc _ _).from _) ((Below.refl _ W).alloc hB1.size _) ⟨hM, hB1.alloc hB1.size _⟩ ⟨W.heap.size, hB1.size, Blk.new W _ _, rfl⟩
  case body =>
    rintro l pre x a' W hl ⟨r, hr⟩ ⟨hM, hB1⟩ ⟨Bx, hBx, bX, rfl⟩ hlt
    obtain ⟨_, _, hS, hN, hrow⟩ := HC.out x.1 x.2
    rw [hS, hN] at bX
    rw [hS, hN]
    have cX0 : W.cell? ⟨Bx, 0, none⟩ = some (.int .i64 ((P[x.1]).1 : Int)) := bX.cell 0
    have cX1 : W.cell? ⟨Bx, 1, none⟩ = some (.slice (A x.1) (P[x.1]).2.length (C x.1)) := bX.cell 1
    have d0 : Boxed W w.heap.size 3 (.int .i64 i) := (hB1.block _ (by omega)).trans b0'
    have d1 : Boxed W (w.heap.size + 1) 22 (.slice none 0 0) := (hB1.block _ (by omega)).trans b1'
    have d2 : Boxed W (w.heap.size + 2) 30 (.int .i64 0) := (hB1.block _ (by omega)).trans b2'
    have g0 := d0.cell
    have g1 := d1.cell
    have f1 := d1.frozen
    have g2 := d2.cell
    have f2 := d2.frozen
    have hBW := hBw.trans (hB1.mono (by omega))
    have hrowW : Row E W (A x.1) (bvs (P[x.1]).2) := hrow.upd (Upd.ofBelow (G := Nil) hBW) (fun _ _ f => f)
    have HRW := Lib.hid hrowW
    have HBX := Lib.hid bX
    have HM := Lib.hid hM
    have hzW := hB1.size
    have hx128 : (P[x.1]).2.length ≤ 140737488355328 := by rw [(HF.out.sent _ (List.getElem_mem x.2)).2]; decide
    clear hrowW bX hM hrow hS hN
    by_cases hx : (P[x.1]).1 = i
    · have hq : (((P[x.1]).1 : Int) == (i : Int)) = true := by rw [hx]; simp
      have HX := Lib.hid hx
      clear hx
      gi_wp2_with (refine ⟨trivial, ?_⟩; gi_at_call 13; refine (CallsIn.inRound l (callsIn_wide.2 (bytesClone _ (C x.1) HRW.out hx128))).mono ?_; rintro e w1 ⟨a1, c1, rfl, hown1, hup1⟩
                   have g1' := hup1.cell g1 (fun f => f); have g2' := hup1.cell g2 (fun f => f)
                   have f1' := Boxed.frozen (hup1.heap d1 (fun f => f)); have f2' := Boxed.frozen (hup1.heap d2 (fun f => f))
                   have HO1 := Lib.hid hown1; have HU1 := Lib.hid hup1; clear hown1 hup1)
      have hsz1 := HU1.out.size
      have e1 : Boxed w1 (w.heap.size + 1) 22 (.slice none 0 0) := HU1.out.heap d1 (fun f => f)
      have e2 : Boxed w1 (w.heap.size + 2) 30 (.int .i64 0) := HU1.out.heap d2 (fun f => f)
      have hB2 : Below w.heap.size w w1 := hBW.trans (HU1.out.below.mono (by omega))
      refine ⟨((HU1.out.others.trans (KeepsOthers.setCell _ _ _)).trans (KeepsOthers.setCell _ _ _)).from _, rfl, x, pre, a1, c1, ⟨rfl, HM.out, HX.out⟩, (e1.set _).other (by omega) _, (e2.other (by omega) _).set _, ?_, (hB2.setCell (p := ⟨w.heap.size + 1, 0, none⟩) (by simp) _).setCell (p := ⟨w.heap.size + 2, 0, none⟩) (by simp) _⟩
      refine ((HO1.out.upd ((Upd.refl (One (w.heap.size + 1)) w1).setCell (p := ⟨w.heap.size + 1, 0, none⟩) (.inl rfl) _) ?_).upd ((Upd.refl (One (w.heap.size + 2)) _).setCell (p := ⟨w.heap.size + 2, 0, none⟩) (.inl rfl) _) ?_).mono (fun k hk => by have := hk.1; omega)
      · rintro k ⟨h1, _⟩ rfl
        omega
      · rintro k ⟨h1, _⟩ rfl
        omega
    · have hq : (((P[x.1]).1 : Int) == (i : Int)) = false := by rw [beq_eq_false_iff_ne]; omega
      have HX := Lib.hid hx
      clear hx
      gi_wp2
      refine ⟨KeepsFrom.refl _ _, Below.refl _ _, fun j hj => ?_, hB1⟩
      rcases List.mem_append.1 hj with hj | hj
      · exact HM.out j hj
      · obtain rfl : j = x := by simpa using hj
        exact HX.out
  case stop =>
    rintro D c pre W hD ⟨k, hk, hpre⟩ ⟨rfl, j0, pre0, a1, c1, ⟨rfl, hM, h0⟩, e1, e2, hO, hB2⟩ hK
    gi_wp2
    refine ⟨by simp, .inl ⟨_, _, rfl, run_takeDeferred hK, ?_⟩⟩
    have k1 := cell_kept e1.cell (grownBy_putObj' _ D (.deferred none)) (fun r e => by cases e; exact ⟨_, hK, rfl⟩)
    have k2 := cell_kept e2.cell (grownBy_putObj' _ D (.deferred none)) (fun r e => by cases e; exact ⟨_, hK, rfl⟩)
    have hO' := own_from hO (grownBy_putObj' W D (.deferred none)) (fun r e => by cases e; exact ⟨_, hK, rfl⟩)
    have hB3 : Below w.heap.size w (W.putObj D (.deferred none)) := hB2.trans (belowK_b (w := w) (Nat.le_refl _) W D _ _ (by omega) hK rfl rfl)
    refine ⟨_, results_cells2 rfl rfl rfl (by kernel_rfl) (by kernel_rfl) k1 k2, ?_⟩
    have hr : readOf B P i hi = (P[j0.1]).2 := readOf_hit hi j0.2 h0 (fun j hj hlt => hM ⟨j, hj⟩ (backs_last hk hpre.symm ⟨j, hj⟩ hlt))
    rw [hr]
    exact ⟨a1, c1, rfl, hO'.inHeap, Upd.ofBelow hB3⟩
  case done =>
    rintro D ys W hD rfl ⟨hM, hB1⟩ hK
    have hBW := hBw.trans (hB1.mono (by omega))
    have huW : Upd Nil w W := Upd.ofBelow hBW
    have d0 : Boxed W w.heap.size 3 (.int .i64 i) := (hB1.block _ (by omega)).trans b0'
    have d1 : Boxed W (w.heap.size + 1) 22 (.slice none 0 0) := (hB1.block _ (by omega)).trans b1'
    have d2 : Boxed W (w.heap.size + 2) 30 (.int .i64 0) := (hB1.block _ (by omega)).trans b2'
    have hrow := HO.out.keep huW
    obtain ⟨v, hv, ax, cx, rfl, rx, _⟩ := HA.out.get hi
    obtain ⟨g, rfl, hRg⟩ := hrow.isNone (by omega)
    obtain ⟨b, o, e, _, hcell⟩ := rowAt hrow.row hv
    obtain ⟨rfl, rfl⟩ : g = b ∧ 0 = o := by simpa using e
    rw [Nat.zero_add] at hcell
    have hcs : W.cell? ⟨s, 0, none⟩ = some (.slice (some ⟨g, 0, none⟩) B.length cl) := (HB.out.upd huW (fun f => f)).cell 0
    have g0 := d0.cell
    have g1 := d1.cell
    have f1 := d1.frozen
    have g2 := d2.cell
    have f2 := d2.frozen
    have hx128 : (B[i]).length ≤ 140737488355328 := by rw [HF.out.size _ (List.getElem_mem hi)]; decide
    have HRx := Lib.hid (rx.keep huW)
    have HUW2 := Lib.hid huW
    have HM := Lib.hid hM
    have HBW := Lib.hid hBW
    clear rx hrow hv e hM hBW huW
    go_wp2
    refine wp_calm ?_
    go_region_law (go_simp; go_at_call 13; refine (bytesClone _ cx HRx.out.drew hx128).mono ?_; rintro e w1 ⟨a1, c1, rfl, hown1, hup1⟩
                   have hup1 := hup1.ofDrew
                   have hown1 : Own (Fr W w1) w1 5 1 a1 (B[i]).length c1 (bvs B[i]) := hown1
                   have k0 := hup1.cell g0 (fun f => f); have k1 := hup1.cell g1 (fun f => f); have k2 := hup1.cell g2 (fun f => f)
                   have ks := hup1.cell hcs (fun f => f); have kg := hup1.cell hcell (fun f => f)
                   have l1 := Boxed.frozen (hup1.heap d1 (fun f => f)); have l2 := Boxed.frozen (hup1.heap d2 (fun f => f))
                   have HO1 := Lib.hid hown1; have HU1 := Lib.hid hup1; clear hown1 hup1)
    all_goals go_wp2
    all_goals
      have e1 : Boxed w1 (w.heap.size + 1) 22 (.slice none 0 0) := HU1.out.heap d1 (fun f => f)
      have e2 : Boxed w1 (w.heap.size + 2) 30 (.int .i64 0) := HU1.out.heap d2 (fun f => f)
      have hzW := hB1.size
      have hsz1 := HU1.out.size
      have hK1 : w1.heap[D]? = some (.deferred (some [])) := HU1.out.heap hK (fun f => f)
      have hK2 := ((KeepsOthers.setCell w1 ⟨w.heap.size + 1, 0, none⟩ (.slice a1 (B[i]).length c1)).trans (KeepsOthers.setCell _ ⟨w.heap.size + 1 + 1, 0, none⟩ (.int .i64 0))).same D _ hK1 rfl
      refine ⟨by simp, .inl ⟨_, _, rfl, run_takeDeferred hK2, ?_⟩⟩
      have q1 : Boxed ((w1.setCell ⟨w.heap.size + 1, 0, none⟩ (.slice a1 (B[i]).length c1)).setCell ⟨w.heap.size + 1 + 1, 0, none⟩ (.int .i64 0)) (w.heap.size + 1) 22 (.slice a1 (B[i]).length c1) := (e1.set _).other (by omega) _
      have q2 : Boxed ((w1.setCell ⟨w.heap.size + 1, 0, none⟩ (.slice a1 (B[i]).length c1)).setCell ⟨w.heap.size + 1 + 1, 0, none⟩ (.int .i64 0)) (w.heap.size + 1 + 1) 30 (.int .i64 0) := (e2.other (by omega) _).set _
      have hB2 : Below w.heap.size w w1 := HBW.out.trans (HU1.out.below.mono (by omega))
      have hB3 := (hB2.setCell (p := ⟨w.heap.size + 1, 0, none⟩) (by simp) (.slice a1 (B[i]).length c1)).setCell (p := ⟨w.heap.size + 1 + 1, 0, none⟩) (by simp; omega) (.int .i64 0)
      have hO : Own (fun k => w.heap.size ≤ k) ((w1.setCell ⟨w.heap.size + 1, 0, none⟩ (.slice a1 (B[i]).length c1)).setCell ⟨w.heap.size + 1 + 1, 0, none⟩ (.int .i64 0)) 5 1 a1 (B[i]).length c1 (bvs B[i]) := by
        refine ((HO1.out.upd ((Upd.refl (One (w.heap.size + 1)) w1).setCell (p := ⟨w.heap.size + 1, 0, none⟩) (.inl rfl) _) ?_).upd ((Upd.refl (One (w.heap.size + 1 + 1)) _).setCell (p := ⟨w.heap.size + 1 + 1, 0, none⟩) (.inl rfl) _) ?_).mono (fun k hk => by have := hk.1; omega)
        · rintro k ⟨h1, _⟩ rfl
          omega
        · rintro k ⟨h1, _⟩ rfl
          omega
      have r1 := cell_kept q1.cell (grownBy_putObj' _ D (.deferred none)) (fun r e => by cases e; exact ⟨_, hK2, rfl⟩)
      have r2 := cell_kept q2.cell (grownBy_putObj' _ D (.deferred none)) (fun r e => by cases e; exact ⟨_, hK2, rfl⟩)
      have hO' := own_from hO (grownBy_putObj' _ D (.deferred none)) (fun r e => by cases e; exact ⟨_, hK2, rfl⟩)
      have hB4 := hB3.trans (belowK_b (w := w) (Nat.le_refl _) _ D _ (.deferred none) (by omega) hK2 rfl rfl)
      refine ⟨_, results_cells2 rfl rfl rfl (by kernel_rfl) (by kernel_rfl) r1 r2, ?_⟩
      have hr : readOf B P i hi = B[i] := readOf_miss hi (fun j hj => HM.out ⟨j, hj⟩ (by rw [mem_backs (Nat.le_refl _)]; omega))
      rw [hr]
      exact ⟨a1, c1, rfl, hO'.inHeap, Upd.ofBelow hB4⟩

theorem disk_Read_no {F : Nat → Prop} (w : World) {s : Nat} {B : List (List UInt8)} {P : List Snt} (h : DiskRep F w s B P) (hB : 1 ≤ B.length) {i : Int} (hi : NoSector B i) :
    Calls Tryd.prog 71 #[.pointer (some ⟨s, 0, none⟩), .int .i64 i] w fun e w' => e = .returned (.tuple #[.slice none 0 0, .int .i64 1]) ∧ Upd Nil w w' := by
  obtain ⟨W0, hW0⟩ : ∃ W0, ((w.alloc (.cells #[.int .i64 i] 3)).alloc (.cells #[.slice none 0 0] 22)).alloc (.cells #[.int .i64 0] 30) = W0 := ⟨_, rfl⟩
  have hu : Upd Nil w W0 := by rw [← hW0]; exact (((Upd.refl Nil w).alloc _).alloc _).alloc _
  have H0 := Lib.hid (disk_look_no W0 (h.upd hu (fun _ _ f => f)) hB hi)
  have HU := Lib.hid hu
  have b0 : Blk W0 w.heap.size 3 #[.int .i64 i] := by rw [← hW0]; exact ((Blk.new w _ _).alloc _).alloc _
  have b1 : Blk W0 (w.heap.size + 1) 22 #[.slice none 0 0] := by rw [← hW0]; have := Blk.new (w.alloc (.cells #[.int .i64 i] 3)) 22 #[.slice none 0 0]; rw [World.size_alloc] at this; exact this.alloc _
  have b2 : Blk W0 (w.heap.size + 2) 30 #[.int .i64 0] := by rw [← hW0]; have := Blk.new ((w.alloc (.cells #[.int .i64 i] 3)).alloc (.cells #[.slice none 0 0] 22)) 30 #[.int .i64 0]; rw [World.size_alloc, World.size_alloc] at this; exact this
  have c0 : W0.cell? ⟨w.heap.size, 0, none⟩ = some (.int .i64 i) := b0.cell 0
  have c1 : W0.cell? ⟨w.heap.size + 1, 0, none⟩ = some (.slice none 0 0) := b1.cell 0
  have c2 : W0.cell? ⟨w.heap.size + 2, 0, none⟩ = some (.int .i64 0) := b2.cell 0
  have f1 := b1.frozen 0
  have f2 := b2.frozen 0
  clear b0 b1 b2 h hi
  go_enter Tryd.func71, Tryd.ntmps71
  go_wp2_with (go_at_call 99; refine H0.out.mono ?_; rintro e w' ⟨rfl, rfl⟩)
  refine bodyPost_ret (results_cells2 (u := .slice none 0 0) (v := .int .i64 1) rfl rfl rfl (by kernel_rfl) (by kernel_rfl) ?_ ?_) rfl ?_
  · simp [go_sem, c1]
  · simp [go_sem, c2]
  · exact ⟨rfl, (HU.out.setCell (p := ⟨w.heap.size + 1, 0, none⟩) (.inr (by simp)) _).setCell (p := ⟨w.heap.size + 2, 0, none⟩) (.inr (by simp)) _⟩
end Go.Proofs.YtbaombnnagidcaaDoor
