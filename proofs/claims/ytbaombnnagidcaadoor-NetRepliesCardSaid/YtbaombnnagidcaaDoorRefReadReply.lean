/- ReadReply of the document. -/
import Derived.Test.YtbaombnnagidcaaDoorRefReadAsk
namespace Go.Proofs.YtbaombnnagidcaaDoor
open Go.RowKit
/-- the reply of a message, as the document reads it -/
def xReplyOf (p : List UInt8) : Rep :=
  ⟨str (textR 8 (List.drop (scanL (List.drop (scanL (List.drop (scanL (p.drop 1)).2.1 (p.drop 1))).2.1 (List.drop (scanL (p.drop 1)).2.1 (p.drop 1)))).2.1 (List.drop (scanL (List.drop (scanL (p.drop 1)).2.1 (p.drop 1))).2.1 (List.drop (scanL (p.drop 1)).2.1 (p.drop 1))))).1, ((scanL (p.drop 1)).1 : Int), ((scanL (List.drop (scanL (p.drop 1)).2.1 (p.drop 1))).1 : Int), ((scanL (List.drop (scanL (List.drop (scanL (p.drop 1)).2.1 (p.drop 1))).2.1 (List.drop (scanL (p.drop 1)).2.1 (p.drop 1)))).1 : Int), str (textR 1000 (List.drop (textR 8 (List.drop (scanL (List.drop (scanL (List.drop (scanL (p.drop 1)).2.1 (p.drop 1))).2.1 (List.drop (scanL (p.drop 1)).2.1 (p.drop 1)))).2.1 (List.drop (scanL (List.drop (scanL (p.drop 1)).2.1 (p.drop 1))).2.1 (List.drop (scanL (p.drop 1)).2.1 (p.drop 1))))).2.1 (List.drop (scanL (List.drop (scanL (List.drop (scanL (p.drop 1)).2.1 (p.drop 1))).2.1 (List.drop (scanL (p.drop 1)).2.1 (p.drop 1)))).2.1 (List.drop (scanL (List.drop (scanL (p.drop 1)).2.1 (p.drop 1))).2.1 (List.drop (scanL (p.drop 1)).2.1 (p.drop 1)))))).1⟩
def xReadReplyL (b : List UInt8) : Rep × Int :=
  if (unframeL b).2.2 ≠ 0 ∨ (unframeL b).2.1 ≠ [] ∨ (byteR (unframeL b).1).1 ≠ 2 ∨ (unframeL b).1 = [] then (Rep.zero, 5) else repEnd b (xReplyOf (unframeL b).1) true
set_option maxRecDepth 100000 in
set_option maxHeartbeats 8000000 in
theorem ref_ReadReply {F : Nat → Prop} (w : World) {a : Option Addr} (c : Nat) {b : List UInt8} (hr : Row F w a (bvs b)) (hA : a = none → c = 0) (hlc : b.length ≤ c) (hcm : c ≤ maxLen) (hx : b.length ≤ 140737488355328) :
    Calls Tryd.prog 36 #[.slice a b.length c] w (GotRep w (xReadReplyL b)) := by
  have HR := Lib.hid hr
  have HAl := Lib.hid (show Upd Nil w (w.alloc (.cells #[.string ⟨#[]⟩, .int .i64 0, .int .i64 0, .int .i64 0, .string ⟨#[]⟩] 53)) from (Upd.refl Nil w).alloc _)
  have HBr := Lib.hid (show Blk (w.alloc (.cells #[.string ⟨#[]⟩, .int .i64 0, .int .i64 0, .int .i64 0, .string ⟨#[]⟩] 53)) w.heap.size 53 #[.string ⟨#[]⟩, .int .i64 0, .int .i64 0, .int .i64 0, .string ⟨#[]⟩] from Blk.new w _ _)
  have HUn := Lib.hid (ref_Unframe (w.alloc (.cells #[.string ⟨#[]⟩, .int .i64 0, .int .i64 0, .int .i64 0, .string ⟨#[]⟩] 53)) c (hr.alloc _) hA hlc hcm hx)
  have hpl := unframe_small b
  clear hr hA hlc hcm
  unfold xReadReplyL
  obtain ⟨⟨p, rest, z⟩, hu⟩ : ∃ u, unframeL b = u := ⟨_, rfl⟩
  rw [hu] at HUn hpl ⊢
  dsimp only at HUn hpl ⊢
  clear hu
  by_cases hbad : z ≠ 0 ∨ rest ≠ [] ∨ (byteR p).1 ≠ 2 ∨ p = []
  · rw [if_pos hbad]
    have hcs : ((z != 0) = true ∧ (z == 0) = false) ∨ (z = 0 ∧ (0 : Int) < (rest.length : Int) ∧ ¬ rest = []) ∨ (z = 0 ∧ rest = [] ∧ p = []) ∨ (z = 0 ∧ rest = [] ∧ ∃ x p', p = x :: p' ∧ x.toNat ≠ 2) := by
      by_cases hz : z = 0
      · by_cases hre : rest = []
        · cases p with
          | nil => exact .inr (.inr (.inl ⟨hz, hre, rfl⟩))
          | cons x p' =>
            refine .inr (.inr (.inr ⟨hz, hre, x, p', rfl, ?_⟩))
            rcases hbad with h | h | h | h
            · exact absurd hz h
            · exact absurd hre h
            · exact h
            · cases h
        · have := List.length_pos_iff.2 hre
          exact .inr (.inl ⟨hz, by omega, hre⟩)
      · exact .inl ⟨by rw [bne_iff_ne]; exact hz, by rw [beq_eq_false_iff_ne]; exact hz⟩
    clear hbad
    rcases hcs with ⟨z1, z2⟩ | ⟨rfl, hrl, hrn⟩ | ⟨rfl, rfl, rfl⟩ | ⟨rfl, rfl, x, p', rfl, hxk⟩
    · go_enter Tryd.func36, Tryd.ntmps36
      go_wp2_with (go_at_call 66; refine HUn.out.mono ?_; rintro e w1 ⟨a1, c1, a2, c2, rfl, g1, g2, g3, g4, g5, g⟩; have HU1 := Lib.hid (HAl.out.trans g (fun _ f _ => f)); have HR1 := Lib.hid (HBr.out.upd g (fun f => f)); have q0 := HR1.out.cell 0; have f0 := HR1.out.frozen 0; have q1 := HR1.out.cell 1; have f1 := HR1.out.frozen 1; have q2 := HR1.out.cell 2; have f2 := HR1.out.frozen 2; have q3 := HR1.out.cell 3; have f3 := HR1.out.frozen 3; have q4 := HR1.out.cell 4; have f4 := HR1.out.frozen 4; have HRp := Lib.hid g1; have HPa := Lib.hid (And.intro g2 (And.intro g3 g4));  clear g1 g2 g3 g4 g5 g)
      (try simp only [Exit.inBlock, Exit.then])
      have hz := (((((HR1.out.set 0 (.string ⟨#[]⟩)).set 1 (.int .i64 0)).set 2 (.int .i64 0)).set 3 (.int .i64 0)).set 4 (.string ⟨#[]⟩))
      refine bodyPost_ret (results_box rfl rfl hz Tryd.underlying53 rfl infoRep rfl) rfl ⟨rfl, ?_⟩
      exact HU1.out.past ((((((Upd.refl (One w.heap.size) w1).setCell (p := ⟨w.heap.size, 0, none⟩) (.inl rfl) _).setCell (p := ⟨w.heap.size, 1, none⟩) (.inl rfl) _).setCell (p := ⟨w.heap.size, 2, none⟩) (.inl rfl) _).setCell (p := ⟨w.heap.size, 3, none⟩) (.inl rfl) _).setCell (p := ⟨w.heap.size, 4, none⟩) (.inl rfl) _) (fun k hk => by have : k = w.heap.size := hk; omega)
    · go_enter Tryd.func36, Tryd.ntmps36
      go_wp2_with (go_at_call 66; refine HUn.out.mono ?_; rintro e w1 ⟨a1, c1, a2, c2, rfl, g1, g2, g3, g4, g5, g⟩; have HU1 := Lib.hid (HAl.out.trans g (fun _ f _ => f)); have HR1 := Lib.hid (HBr.out.upd g (fun f => f)); have q0 := HR1.out.cell 0; have f0 := HR1.out.frozen 0; have q1 := HR1.out.cell 1; have f1 := HR1.out.frozen 1; have q2 := HR1.out.cell 2; have f2 := HR1.out.frozen 2; have q3 := HR1.out.cell 3; have f3 := HR1.out.frozen 3; have q4 := HR1.out.cell 4; have f4 := HR1.out.frozen 4; have HRp := Lib.hid g1; have HPa := Lib.hid (And.intro g2 (And.intro g3 g4));  clear g1 g2 g3 g4 g5 g)
      (try simp only [Exit.inBlock, Exit.then])
      have hz := (((((HR1.out.set 0 (.string ⟨#[]⟩)).set 1 (.int .i64 0)).set 2 (.int .i64 0)).set 3 (.int .i64 0)).set 4 (.string ⟨#[]⟩))
      refine bodyPost_ret (results_box rfl rfl hz Tryd.underlying53 rfl infoRep rfl) rfl ⟨rfl, ?_⟩
      exact HU1.out.past ((((((Upd.refl (One w.heap.size) w1).setCell (p := ⟨w.heap.size, 0, none⟩) (.inl rfl) _).setCell (p := ⟨w.heap.size, 1, none⟩) (.inl rfl) _).setCell (p := ⟨w.heap.size, 2, none⟩) (.inl rfl) _).setCell (p := ⟨w.heap.size, 3, none⟩) (.inl rfl) _).setCell (p := ⟨w.heap.size, 4, none⟩) (.inl rfl) _) (fun k hk => by have : k = w.heap.size := hk; omega)
    · go_enter Tryd.func36, Tryd.ntmps36
      go_wp2_with (go_at_call 66; refine HUn.out.mono ?_; rintro e w1 ⟨a1, c1, a2, c2, rfl, g1, g2, g3, g4, g5, g⟩; have HU1 := Lib.hid (HAl.out.trans g (fun _ f _ => f)); have HR1 := Lib.hid (HBr.out.upd g (fun f => f)); have q0 := HR1.out.cell 0; have f0 := HR1.out.frozen 0; have q1 := HR1.out.cell 1; have f1 := HR1.out.frozen 1; have q2 := HR1.out.cell 2; have f2 := HR1.out.frozen 2; have q3 := HR1.out.cell 3; have f3 := HR1.out.frozen 3; have q4 := HR1.out.cell 4; have f4 := HR1.out.frozen 4; have HRp := Lib.hid g1; have HPa := Lib.hid (And.intro g2 (And.intro g3 g4));  clear g1 g2 g3 g4 g5 g)
      (try simp only [Exit.inBlock, Exit.then])
      have hz := (((((HR1.out.set 0 (.string ⟨#[]⟩)).set 1 (.int .i64 0)).set 2 (.int .i64 0)).set 3 (.int .i64 0)).set 4 (.string ⟨#[]⟩))
      refine bodyPost_ret (results_box rfl rfl hz Tryd.underlying53 rfl infoRep rfl) rfl ⟨rfl, ?_⟩
      exact HU1.out.past ((((((Upd.refl (One w.heap.size) w1).setCell (p := ⟨w.heap.size, 0, none⟩) (.inl rfl) _).setCell (p := ⟨w.heap.size, 1, none⟩) (.inl rfl) _).setCell (p := ⟨w.heap.size, 2, none⟩) (.inl rfl) _).setCell (p := ⟨w.heap.size, 3, none⟩) (.inl rfl) _).setCell (p := ⟨w.heap.size, 4, none⟩) (.inl rfl) _) (fun k hk => by have : k = w.heap.size := hk; omega)
    · have hk1 : ((x.toNat : Int) != 2) = true := by rw [bne_iff_ne]; omega
      have hk2 : ((x.toNat : Int) == 2) = false := by rw [beq_eq_false_iff_ne]; omega
      have hp0 : (((x :: p').length : Int) == 0) = false := by rw [beq_eq_false_iff_ne, List.length_cons]; omega
      have hp1 : (0 : Int) < ((x :: p').length : Int) := by rw [List.length_cons]; omega
      go_enter Tryd.func36, Tryd.ntmps36
      go_wp2_with (go_at_call 66; refine HUn.out.mono ?_; rintro e w1 ⟨a1, c1, a2, c2, rfl, g1, g2, g3, g4, g5, g⟩; have HU1 := Lib.hid (HAl.out.trans g (fun _ f _ => f)); have HR1 := Lib.hid (HBr.out.upd g (fun f => f)); have q0 := HR1.out.cell 0; have f0 := HR1.out.frozen 0; have q1 := HR1.out.cell 1; have f1 := HR1.out.frozen 1; have q2 := HR1.out.cell 2; have f2 := HR1.out.frozen 2; have q3 := HR1.out.cell 3; have f3 := HR1.out.frozen 3; have q4 := HR1.out.cell 4; have f4 := HR1.out.frozen 4; have HRp := Lib.hid g1; have HPa := Lib.hid (And.intro g2 (And.intro g3 g4)); obtain ⟨bp, op, rfl, _, hcx⟩ := rowAt g1 (bvs_get (x :: p') 0 (by simp)); have hcx' : w1.cell? ⟨bp, op, none⟩ = some (.int .u8 (x.toNat : Int)) := hcx; clear hcx; clear g1 g2 g3 g4 g5 g)
      (try simp only [Exit.inBlock, Exit.then])
      have hz := (((((HR1.out.set 0 (.string ⟨#[]⟩)).set 1 (.int .i64 0)).set 2 (.int .i64 0)).set 3 (.int .i64 0)).set 4 (.string ⟨#[]⟩))
      refine bodyPost_ret (results_box rfl rfl hz Tryd.underlying53 rfl infoRep rfl) rfl ⟨rfl, ?_⟩
      exact HU1.out.past ((((((Upd.refl (One w.heap.size) w1).setCell (p := ⟨w.heap.size, 0, none⟩) (.inl rfl) _).setCell (p := ⟨w.heap.size, 1, none⟩) (.inl rfl) _).setCell (p := ⟨w.heap.size, 2, none⟩) (.inl rfl) _).setCell (p := ⟨w.heap.size, 3, none⟩) (.inl rfl) _).setCell (p := ⟨w.heap.size, 4, none⟩) (.inl rfl) _) (fun k hk => by have : k = w.heap.size := hk; omega)
  · rw [if_neg hbad]
    obtain ⟨rfl, rfl, x, p', rfl, hxk⟩ : z = 0 ∧ rest = [] ∧ ∃ x p', p = x :: p' ∧ x.toNat = 2 := by
      refine ⟨Decidable.byContradiction (fun h => hbad (.inl h)), Decidable.byContradiction (fun h => hbad (.inr (.inl h))), ?_⟩
      cases p with
      | nil => exact absurd (.inr (.inr (.inr rfl))) hbad
      | cons x p' => exact ⟨x, p', rfl, Decidable.byContradiction (fun h => hbad (.inr (.inr (.inl h))))⟩
    clear hbad
    obtain ⟨⟨m0, k0, z0⟩, hs0⟩ : ∃ t, scanL p' = t := ⟨_, rfl⟩
    obtain ⟨l1, hl1⟩ : ∃ l, p'.drop k0 = l := ⟨_, rfl⟩
    obtain ⟨⟨m1, k1, z1⟩, hs1⟩ : ∃ t, scanL l1 = t := ⟨_, rfl⟩
    obtain ⟨l2, hl2⟩ : ∃ l, l1.drop k1 = l := ⟨_, rfl⟩
    obtain ⟨⟨m2, k2, z2⟩, hs2⟩ : ∃ t, scanL l2 = t := ⟨_, rfl⟩
    obtain ⟨l3, hl3⟩ : ∃ l, l2.drop k2 = l := ⟨_, rfl⟩
    obtain ⟨⟨t0, j0, y0⟩, ht0⟩ : ∃ t, textR 8 l3 = t := ⟨_, rfl⟩
    obtain ⟨l4, hl4⟩ : ∃ l, l3.drop j0 = l := ⟨_, rfl⟩
    obtain ⟨⟨t1, j1, y1⟩, ht1⟩ : ∃ t, textR 1000 l4 = t := ⟨_, rfl⟩
    have hQ : xReplyOf (x :: p') = ⟨str t0, (m0 : Int), (m1 : Int), (m2 : Int), str t1⟩ := by
      simp only [xReplyOf, List.drop_succ_cons, List.drop_zero, hs0, hl1, hs1, hl2, hs2, hl3, hl4, ht0, ht1]
    rw [hQ]
    have hz0 : (str t0).size ≤ 8 := by have := textR_le 8 l3; rw [ht0] at this; rw [size_str]; exact this
    have hz1 : (str t1).size ≤ 1000 := by have := textR_le 1000 l4; rw [ht1] at this; rw [size_str]; exact this
    have HS0 := Lib.hid hs0
    have HL1 := Lib.hid hl1
    have HS1 := Lib.hid hs1
    have HL2 := Lib.hid hl2
    have HS2 := Lib.hid hs2
    have HL3 := Lib.hid hl3
    have HT0 := Lib.hid ht0
    have HT1 := Lib.hid ht1
    have HL4 := Lib.hid hl4
    obtain ⟨zz, hzz⟩ : ∃ z, replyZ ⟨str t0, (m0 : Int), (m1 : Int), (m2 : Int), str t1⟩ = z := ⟨_, rfl⟩
    obtain ⟨ys, hys⟩ : ∃ ys, replyB ⟨str t0, (m0 : Int), (m1 : Int), (m2 : Int), str t1⟩ = ys := ⟨_, rfl⟩
    obtain ⟨id, hid⟩ : ∃ s, str t0 = s := ⟨_, rfl⟩
    obtain ⟨text, htx⟩ : ∃ s, str t1 = s := ⟨_, rfl⟩
    rw [hid] at hzz hys hz0 ⊢
    rw [htx] at hzz hys hz1 ⊢
    have hc3 : (zz = 0 ∧ ((str ys).toList == (str b).toList) = true ∧ repEnd b ⟨id, (m0 : Int), (m1 : Int), (m2 : Int), text⟩ true = (⟨id, (m0 : Int), (m1 : Int), (m2 : Int), text⟩, 0)) ∨ (zz = 0 ∧ ((str ys).toList == (str b).toList) = false ∧ repEnd b ⟨id, (m0 : Int), (m1 : Int), (m2 : Int), text⟩ true = (Rep.zero, 5)) ∨ ((zz != 0) = true ∧ (zz == 0) = false ∧ repEnd b ⟨id, (m0 : Int), (m1 : Int), (m2 : Int), text⟩ true = (Rep.zero, 5)) := by
      unfold repEnd
      rw [hzz, hys]
      by_cases h1 : zz = 0
      · by_cases h2 : b = ys
        · exact .inl ⟨h1, str_same h2.symm, if_pos ⟨rfl, h1, h2⟩⟩
        · exact .inr (.inl ⟨h1, str_other (fun e => h2 e.symm), if_neg (fun e => h2 e.2.2)⟩)
      · exact .inr (.inr ⟨by rw [bne_iff_ne]; exact h1, by rw [beq_eq_false_iff_ne]; exact h1, if_neg (fun e => h1 e.2.1)⟩)
    have HZ := Lib.hid hzz
    have HY := Lib.hid hys
    have HId := Lib.hid hid
    have HTx := Lib.hid htx
    have HX := Lib.hid hxk
    clear hzz hys hid htx hQ hs0 hl1 hs1 hl2 hs2 hl3 hl4 ht0 ht1 hxk
    have hk1 : ((2 : Int) != 2) = false := by decide
    have hp0 : (((x :: p').length : Int) == 0) = false := by rw [beq_eq_false_iff_ne, List.length_cons]; omega
    have hp1 : (0 : Int) < ((x :: p').length : Int) := by rw [List.length_cons]; omega
    have hp2 : (1 : Int) ≤ ((x :: p').length : Int) := by rw [List.length_cons]; omega
    rcases hc3 with ⟨rfl, hne, hE⟩ | ⟨rfl, hne, hE⟩ | ⟨hz1', hz2', hE⟩
    all_goals
      rw [hE]
      clear hE
      have tok0 := hk1
      have tok1 := hk1
      have tok2 := hk1
      have tok3 := hk1
      go_enter Tryd.func36, Tryd.ntmps36
      go_wp2_with (first
        | (go_at_call 66; refine HUn.out.mono ?_; rintro e w1 ⟨a1, c1, a2, c2, rfl, g1, g2, g3, g4, g5, g⟩; have HU1 := Lib.hid (HAl.out.trans g (fun _ f _ => f)); have HR1 := Lib.hid (HBr.out.upd g (fun f => f)); obtain ⟨bp, op, rfl, _, hcx⟩ := rowAt g1 (bvs_get (x :: p') 0 (by simp)); have hcx' : w1.cell? ⟨bp, op, none⟩ = some (.int .u8 (x.toNat : Int)) := hcx; rw [HX.out] at hcx'; clear hcx
           have hzs : w.heap.size < w1.heap.size := by have := g.size; simp only [World.size_alloc] at this; omega
           have HF := Lib.hid (show ∀ q, (Fr (w.alloc (.cells #[.string ⟨#[]⟩, .int .i64 0, .int .i64 0, .int .i64 0, .string ⟨#[]⟩] 53)) w1 q ∨ q = w1.heap.size) → w.heap.size < q from fun q hq => hq.elim (fun h => by have := h.1; simp only [World.size_alloc] at this; omega) (fun h => by omega))
           have HXa := Lib.hid (show c1 = 1 → Xr (fun q => Fr (w.alloc (.cells #[.string ⟨#[]⟩, .int .i64 0, .int .i64 0, .int .i64 0, .string ⟨#[]⟩] 53)) w1 q ∨ q = w1.heap.size) (w1.alloc (.cells #[.slice (some ⟨bp, op, none⟩) p'.length 0] 113)) w1.heap.size p' from fun h1 => by have h0 : p' = [] := List.eq_nil_of_length_eq_zero (by rw [h1, List.length_cons] at g3; omega); subst h0; exact ⟨Nil, _, 0, .inr rfl, fun _ f => f.elim, Blk.new w1 _ _, Row.nil _ _ _, Nat.le_refl _, Nat.zero_le _, fun h => by cases h⟩)
           have HXb := Lib.hid (show ¬ c1 = 1 → Xr (fun q => Fr (w.alloc (.cells #[.string ⟨#[]⟩, .int .i64 0, .int .i64 0, .int .i64 0, .string ⟨#[]⟩] 53)) w1 q ∨ q = w1.heap.size) (w1.alloc (.cells #[.slice (some ⟨bp, op + 1, none⟩) p'.length (c1 - 1)] 113)) w1.heap.size p' from fun h1 => by have hd := g1.dropAt 1 c1 (by rw [length_bvs, List.length_cons]; omega) (by rw [length_bvs]; exact g3); rw [if_neg h1, ← bvs_drop] at hd; exact Xr.box hd (fun q hq => hq.2) (by rw [List.length_cons] at g3; omega) (by simp only [maxLen] at g4 ⊢; omega) (fun h => by cases h))
           clear g1 g2 g3 g4 g5 g)
        | (have _t := tok0; go_at_call 67; refine (xr_Uint _ (by first | exact HXa.out (by assumption) | exact HXb.out (by assumption))).mono ?_; rintro e w2 hg; rw [HS0.out] at hg; dsimp only at hg; rw [HL1.out] at hg; obtain ⟨rfl, g1, g2⟩ := hg; have HX1 := Lib.hid g1; have HU2 := Lib.hid ((HU1.out.alloc _).past g2 (fun q hq => Nat.le_of_lt (HF.out q hq))); have HR2 := Lib.hid ((HR1.out.alloc _).upd g2 (fun f => Nat.lt_irrefl _ (HF.out _ f))); clear g1 g2 tok0)
        | (have _t := tok1; go_at_call 67; refine (xr_Uint _ HX1.out).mono ?_; rintro e w3 hg; rw [HS1.out] at hg; dsimp only at hg; rw [HL2.out] at hg; obtain ⟨rfl, g1, g2⟩ := hg; have HX2 := Lib.hid g1; have HU3 := Lib.hid (HU2.out.past g2 (fun q hq => Nat.le_of_lt (HF.out q hq))); have HR3 := Lib.hid (HR2.out.upd g2 (fun f => Nat.lt_irrefl _ (HF.out _ f))); clear g1 g2 tok1)
        | (have _t := tok2; go_at_call 67; refine (xr_Uint _ HX2.out).mono ?_; rintro e w4 hg; rw [HS2.out] at hg; dsimp only at hg; rw [HL3.out] at hg; obtain ⟨rfl, g1, g2⟩ := hg; have HX3 := Lib.hid g1; have HU4 := Lib.hid (HU3.out.past g2 (fun q hq => Nat.le_of_lt (HF.out q hq))); have HR4 := Lib.hid (HR3.out.upd g2 (fun f => Nat.lt_irrefl _ (HF.out _ f))); clear g1 g2 tok2)
        | (have _t := tok3; go_at_call 68; refine (xr_Text _ HX3.out 8 (by decide)).mono ?_; rintro e w5 hg; rw [HT0.out] at hg; dsimp only at hg; rw [HId.out, HL4.out] at hg; obtain ⟨rfl, g1, g2⟩ := hg; have HX4 := Lib.hid g1; have HU5 := Lib.hid (HU4.out.past g2 (fun q hq => Nat.le_of_lt (HF.out q hq))); have HR5 := Lib.hid (HR4.out.upd g2 (fun f => Nat.lt_irrefl _ (HF.out _ f))); clear g1 g2 tok3)
        | (go_at_call 68; refine (xr_Text _ HX4.out 1000 (by decide)).mono ?_; rintro e w6 hg; rw [HT1.out] at hg; dsimp only at hg; rw [HTx.out] at hg; obtain ⟨rfl, g1, g2⟩ := hg; have HU6 := Lib.hid (HU5.out.past g2 (fun q hq => Nat.le_of_lt (HF.out q hq))); have HR6 := Lib.hid (HR5.out.upd g2 (fun f => Nat.lt_irrefl _ (HF.out _ f))); clear g1 g2)
        | (go_at_call 34; refine (ref_Reply _ ⟨id, (m0 : Int), (m1 : Int), (m2 : Int), text⟩ (by show id.size ≤ _; omega) (by show text.size ≤ _; omega)).mono ?_; rintro e w9 hg; rw [HZ.out, HY.out] at hg; obtain ⟨a9, c9, rfl, g1, g2⟩ := hg
           have HU9 := Lib.hid ((HU6.out.alloc _).trans g2 (fun _ f _ => f))
           have hq := (Blk.new w6 53 #[.string id, .int .i64 (m0 : Int), .int .i64 (m1 : Int), .int .i64 (m2 : Int), .string text]).upd g2 (fun f => f)
           have hr := (HR6.out.alloc (.cells #[.string id, .int .i64 (m0 : Int), .int .i64 (m1 : Int), .int .i64 (m2 : Int), .string text] 53)).upd g2 (fun f => f)
           have s0 := hq.cell 0; have s1 := hq.cell 1; have s2 := hq.cell 2; have s3 := hq.cell 3; have s4 := hq.cell 4
           have q0 := hr.cell 0; have f0 := hr.frozen 0; have q1 := hr.cell 1; have f1 := hr.frozen 1; have q2 := hr.cell 2; have f2 := hr.frozen 2; have q3 := hr.cell 3; have f3 := hr.frozen 3; have q4 := hr.cell 4; have f4 := hr.frozen 4
           have cvx : ∀ e, (convert 22 9 (.slice a9 ys.length e)).run Tryd.prog w9 = .ok (.string (str ys)) w9 := fun e => run_convert_Row (P := Tryd.prog) g1.row 22 5 9 Tryd.underlying22 Tryd.underlying5 Tryd.underlying9 e
           have cvb : ∀ e, (convert 22 9 (.slice a b.length e)).run Tryd.prog w9 = .ok (.string (str b)) w9 := fun e => run_convert_Row (P := Tryd.prog) (HR.out.keep HU9.out) 22 5 9 Tryd.underlying22 Tryd.underlying5 Tryd.underlying9 e
           have HR9 := Lib.hid hr
           clear g1 g2 hq hr))
    all_goals (try simp only [Exit.inBlock, Exit.then])
    · have hz := (((((HR9.out.set 0 (.string id)).set 1 (.int .i64 (m0 : Int))).set 2 (.int .i64 (m1 : Int))).set 3 (.int .i64 (m2 : Int))).set 4 (.string text))
      refine bodyPost_ret (results_box rfl rfl hz Tryd.underlying53 rfl infoRep rfl) rfl ⟨rfl, ?_⟩
      exact HU9.out.past ((((((Upd.refl (One w.heap.size) w9).setCell (p := ⟨w.heap.size, 0, none⟩) (.inl rfl) _).setCell (p := ⟨w.heap.size, 1, none⟩) (.inl rfl) _).setCell (p := ⟨w.heap.size, 2, none⟩) (.inl rfl) _).setCell (p := ⟨w.heap.size, 3, none⟩) (.inl rfl) _).setCell (p := ⟨w.heap.size, 4, none⟩) (.inl rfl) _) (fun k hk => by have : k = w.heap.size := hk; omega)
    · have hz := (((((HR9.out.set 0 (.string id)).set 1 (.int .i64 (m0 : Int))).set 2 (.int .i64 (m1 : Int))).set 3 (.int .i64 (m2 : Int))).set 4 (.string text))
      refine bodyPost_ret (results_box rfl rfl hz Tryd.underlying53 rfl infoRep rfl) rfl ⟨rfl, ?_⟩
      exact HU9.out.past ((((((Upd.refl (One w.heap.size) w9).setCell (p := ⟨w.heap.size, 0, none⟩) (.inl rfl) _).setCell (p := ⟨w.heap.size, 1, none⟩) (.inl rfl) _).setCell (p := ⟨w.heap.size, 2, none⟩) (.inl rfl) _).setCell (p := ⟨w.heap.size, 3, none⟩) (.inl rfl) _).setCell (p := ⟨w.heap.size, 4, none⟩) (.inl rfl) _) (fun k hk => by have : k = w.heap.size := hk; omega)
    · have hz := (((((HR9.out.set 0 (.string ⟨#[]⟩)).set 1 (.int .i64 0)).set 2 (.int .i64 0)).set 3 (.int .i64 0)).set 4 (.string ⟨#[]⟩))
      refine bodyPost_ret (results_box rfl rfl hz Tryd.underlying53 rfl infoRep rfl) rfl ⟨rfl, ?_⟩
      exact HU9.out.past ((((((Upd.refl (One w.heap.size) w9).setCell (p := ⟨w.heap.size, 0, none⟩) (.inl rfl) _).setCell (p := ⟨w.heap.size, 1, none⟩) (.inl rfl) _).setCell (p := ⟨w.heap.size, 2, none⟩) (.inl rfl) _).setCell (p := ⟨w.heap.size, 3, none⟩) (.inl rfl) _).setCell (p := ⟨w.heap.size, 4, none⟩) (.inl rfl) _) (fun k hk => by have : k = w.heap.size := hk; omega)
    · have hz := (((((HR9.out.set 0 (.string ⟨#[]⟩)).set 1 (.int .i64 0)).set 2 (.int .i64 0)).set 3 (.int .i64 0)).set 4 (.string ⟨#[]⟩))
      refine bodyPost_ret (results_box rfl rfl hz Tryd.underlying53 rfl infoRep rfl) rfl ⟨rfl, ?_⟩
      exact HU9.out.past ((((((Upd.refl (One w.heap.size) w9).setCell (p := ⟨w.heap.size, 0, none⟩) (.inl rfl) _).setCell (p := ⟨w.heap.size, 1, none⟩) (.inl rfl) _).setCell (p := ⟨w.heap.size, 2, none⟩) (.inl rfl) _).setCell (p := ⟨w.heap.size, 3, none⟩) (.inl rfl) _).setCell (p := ⟨w.heap.size, 4, none⟩) (.inl rfl) _) (fun k hk => by have : k = w.heap.size := hk; omega)
    · have hz := (((((HR9.out.set 0 (.string ⟨#[]⟩)).set 1 (.int .i64 0)).set 2 (.int .i64 0)).set 3 (.int .i64 0)).set 4 (.string ⟨#[]⟩))
      refine bodyPost_ret (results_box rfl rfl hz Tryd.underlying53 rfl infoRep rfl) rfl ⟨rfl, ?_⟩
      exact HU9.out.past ((((((Upd.refl (One w.heap.size) w9).setCell (p := ⟨w.heap.size, 0, none⟩) (.inl rfl) _).setCell (p := ⟨w.heap.size, 1, none⟩) (.inl rfl) _).setCell (p := ⟨w.heap.size, 2, none⟩) (.inl rfl) _).setCell (p := ⟨w.heap.size, 3, none⟩) (.inl rfl) _).setCell (p := ⟨w.heap.size, 4, none⟩) (.inl rfl) _) (fun k hk => by have : k = w.heap.size := hk; omega)
    · have hz := (((((HR9.out.set 0 (.string ⟨#[]⟩)).set 1 (.int .i64 0)).set 2 (.int .i64 0)).set 3 (.int .i64 0)).set 4 (.string ⟨#[]⟩))
      refine bodyPost_ret (results_box rfl rfl hz Tryd.underlying53 rfl infoRep rfl) rfl ⟨rfl, ?_⟩
      exact HU9.out.past ((((((Upd.refl (One w.heap.size) w9).setCell (p := ⟨w.heap.size, 0, none⟩) (.inl rfl) _).setCell (p := ⟨w.heap.size, 1, none⟩) (.inl rfl) _).setCell (p := ⟨w.heap.size, 2, none⟩) (.inl rfl) _).setCell (p := ⟨w.heap.size, 3, none⟩) (.inl rfl) _).setCell (p := ⟨w.heap.size, 4, none⟩) (.inl rfl) _) (fun k hk => by have : k = w.heap.size := hk; omega)
end Go.Proofs.YtbaombnnagidcaaDoor
