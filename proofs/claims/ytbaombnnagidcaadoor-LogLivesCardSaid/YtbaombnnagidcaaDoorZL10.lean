/- parse of the program: the numbers and texts of a message. -/
import Derived.Test.YtbaombnnagidcaaDoorZL09

namespace Go.Proofs.YtbaombnnagidcaaDoor
open Go.RowKit

/-- the first byte -/
def byteR : List UInt8 → Nat × Nat × Int
  | [] => (0, 0, 10)
  | x :: _ => (x.toNat, 1, 0)
theorem rd_Byte0 {F : Nat → Prop} (w : World) {s : Nat} {l : List UInt8} (h : Rd F w s l 0) :
    Calls Tryd.prog 96 #[.pointer (some ⟨s, 0, none⟩)] w (RdGot F w s (.tuple #[.int .u8 ((byteR l).1 : Int), .int .i64 (byteR l).2.2]) l (byteR l).2.1) := by
  cases l with
  | nil =>
    refine (rd_Byte_no w h rfl).mono ?_
    rintro e w' ⟨rfl, g⟩
    exact ⟨rfl, h.keep g, g.ofNil⟩
  | cons x r => exact rd_Byte_yes w h (by simp)

def stepN (l : List UInt8) (st : List Int × Nat × Int) : List Int × Nat × Int :=
  if st.2.2 = 0 then (st.1 ++ [((scanL (l.drop st.2.1)).1 : Int)], st.2.1 + (scanL (l.drop st.2.1)).2.1, (scanL (l.drop st.2.1)).2.2) else (st.1 ++ [0], st.2.1, st.2.2)
/-- m numbers, one behind the other, till one can't be read -/
def numsS (l : List UInt8) (st : List Int × Nat × Int) : Nat → List Int × Nat × Int
  | 0 => st
  | m + 1 => stepN l (numsS l st m)
theorem length_numsS (l : List UInt8) (p : Nat) (e : Int) : ∀ m, (numsS l ([], p, e) m).1.length = m
  | 0 => rfl
  | m + 1 => by
    have := length_numsS l p e m
    rw [numsS, stepN]
    split <;> simp [this]

/-- the texts of a message behind its numbers, and whether all is right -/
def parseEndL (p : List UInt8) (k k0 : Nat) (st : List Int × Nat × Int) : List Int × ByteArray × ByteArray × Bool :=
  (st.1, str (textR p.length (p.drop st.2.1)).1, str (textR p.length (p.drop (st.2.1 + (textR p.length (p.drop st.2.1)).2.1))).1,
    decide (k0 = k ∧ st.2.2 = 0 ∧ (textR p.length (p.drop st.2.1)).2.2 = 0 ∧ (textR p.length (p.drop (st.2.1 + (textR p.length (p.drop st.2.1)).2.1))).2.2 = 0 ∧
      (p.drop (st.2.1 + (textR p.length (p.drop st.2.1)).2.1 + (textR p.length (p.drop (st.2.1 + (textR p.length (p.drop st.2.1)).2.1))).2.1)).length = 0))
/-- what parse reads: the numbers, the two texts, whether all is right -/
def parseL (b : List UInt8) (k m : Nat) : List Int × ByteArray × ByteArray × Bool :=
  if (unframeL b).2.2 ≠ 0 ∨ (unframeL b).2.1 ≠ [] then (List.replicate m 0, ⟨#[]⟩, ⟨#[]⟩, false)
  else parseEndL (unframeL b).1 k (byteR (unframeL b).1).1 (numsS (unframeL b).1 ([], (byteR (unframeL b).1).2.1, (byteR (unframeL b).1).2.2) m)

/-- a struct of a text, numbers, a text -/
def blkL (vs : List Int) : Array Value := (Value.string ⟨#[]⟩ :: (nvs vs ++ [Value.string ⟨#[]⟩])).toArray
theorem blkL_get {vs : List Int} {i : Nat} (h : i < vs.length) : (blkL vs)[i + 1]? = some (.int .i64 vs[i]) := by
  simp [blkL, nvs, List.getElem?_append, h]
theorem blkL_set {vs : List Int} {i : Nat} (h : i < vs.length) (z : Int) : (blkL vs).setIfInBounds (i + 1) (.int .i64 z) = blkL (vs.set i z) := by
  apply Array.toList_inj.1
  simp [blkL, nvs, h, List.map_set]
def ptrs (s m : Nat) : List Value := (List.range m).map (fun i => .pointer (some ⟨s, i + 1, none⟩))
theorem ptrs_get {s m i : Nat} (h : i < m) : (ptrs s m)[i]? = some (.pointer (some ⟨s, i + 1, none⟩)) := by simp [ptrs, h]
theorem set_zeros {vs : List Int} {m j : Nat} (hv : vs.length = j) (hj : j < m) (z : Int) : (vs ++ List.replicate (m - j) 0).set j z = vs ++ [z] ++ List.replicate (m - (j + 1)) 0 := by
  obtain ⟨d, hd⟩ : ∃ d, m - j = d + 1 := ⟨m - j - 1, by omega⟩
  rw [List.set_append_right _ _ (by omega), hv, Nat.sub_self, hd, List.replicate_succ, List.set_cons_zero, show m - (j + 1) = d by omega, List.append_assoc]
  rfl

theorem unframe_small (b : List UInt8) : (unframeL b).1.length ≤ 65536 := by
  unfold unframeL
  split
  · simp
  · split
    · simp
    · split
      · simp
      · split
        · rw [List.length_take]
          omega
        · simp

/-- what parse leaves -/
def GotParse (w : World) (s : Nat) (t : TypeId) (q : List Int × ByteArray × ByteArray × Bool) (e : Ending) (w' : World) : Prop :=
  e = .returned (.tuple #[.string q.2.1, .string q.2.2.1, .bool q.2.2.2]) ∧ Blk w' s t (blkL q.1) ∧ Upd (One s) w w'

set_option maxRecDepth 100000 in
set_option maxHeartbeats 4000000 in
theorem net_parse {F G : Nat → Prop} (w : World) {a : Option Addr} (c : Nat) {b : List UInt8} (hr : Row F w a (bvs b)) (hx : b.length ≤ 140737488355328) (k : Nat) {s : Nat} {t : TypeId} {m : Nat} {pa : Option Addr} (pc : Nat) (hp : Row G w pa (ptrs s m)) (hm : m ≤ 100) (hb : Blk w s t (blkL (List.replicate m 0))) (hG : ¬ G s) (tab : Tab w) :
    Calls Tryd.prog 64 #[.slice a b.length c, .int .u8 (k : Int), .slice pa m pc] w (GotParse w s t (parseL b k m)) := by
  have HUn := Lib.hid (wire_Unframe w c hr hx tab)
  have hpl := unframe_small b
  have HP := Lib.hid hp
  have HB := Lib.hid hb
  have HG := Lib.hid hG
  have hsz := hb.lt
  clear hr hp hb hG tab
  unfold parseL
  obtain ⟨⟨p, rest, z⟩, hu⟩ : ∃ u, unframeL b = u := ⟨_, rfl⟩
  rw [hu] at HUn hpl ⊢
  dsimp only at HUn hpl ⊢
  clear hu
  by_cases hbad : z ≠ 0 ∨ rest ≠ []
  · rw [if_pos hbad]
    have hb' : (¬ z = 0 ∧ (z != 0) = true ∧ (z == 0) = false) ∨ (z = 0 ∧ (0 : Int) < (rest.length : Int)) := by
      by_cases hz : z = 0
      · right
        refine ⟨hz, ?_⟩
        have : rest ≠ [] := hbad.resolve_left (fun h => h hz)
        have := List.length_pos_iff.2 this
        omega
      · exact .inl ⟨hz, by rw [bne_iff_ne]; exact hz, by rw [beq_eq_false_iff_ne]; exact hz⟩
    clear hbad
    rcases hb' with ⟨hz, hz1, hz2⟩ | ⟨rfl, hrl⟩
    all_goals
      go_enter Tryd.func64, Tryd.ntmps64
      go_wp2_with (go_at_call 22; refine HUn.out.mono ?_; rintro e w1 ⟨a1, c1, a2, c2, rfl, _, _, _, _, _, g⟩; have HU := Lib.hid g; clear g)
      go_ret3
      exact ⟨rfl, HB.out.upd HU.out (fun f => f), HU.out.ofNil⟩
  · rw [if_neg hbad]
    have hz : z = 0 := Decidable.byContradiction (fun h => hbad (.inl h))
    have hrn : rest = [] := Decidable.byContradiction (fun h => hbad (.inr h))
    subst hz; subst hrn
    clear hbad
    obtain ⟨⟨k0, p0, e0⟩, hk0⟩ : ∃ q, byteR p = q := ⟨_, rfl⟩
    rw [hk0]
    dsimp only
    have HK0 := Lib.hid hk0
    obtain ⟨S, hS⟩ : ∃ S, S = numsS p ([], p0, e0) := ⟨_, rfl⟩
    rw [← hS]
    have HS := Lib.hid hS
    clear hk0 hS
    go_enter Tryd.func64, Tryd.ntmps64
    go_wp2_with (first
      | (go_at_call 22; refine HUn.out.mono ?_; rintro e w1 ⟨a1, c1, a2, c2, rfl, g1, g2, g3, g4, _, g⟩; have HR1 := Lib.hid g1; have HU1 := Lib.hid g; clear g g1)
      | (go_at_call 23; refine (rd_Over _ c1 HR1.out (by omega)).mono ?_; rintro e w2 ⟨sr, F1, rfl, g1, g2, g3⟩; have H1 := Lib.hid g1; have H2 := Lib.hid g2; have HU2 := Lib.hid (HU1.out.trans g3 (fun _ f _ => f)); clear g1 g2 g3)
      | (go_at_call 96; refine (rd_Byte0 _ H1.out).mono ?_; rintro e w3 hg; rw [HK0.out] at hg; dsimp only at hg; obtain ⟨rfl, g1, g2⟩ := hg; have H3 := Lib.hid g1; have HU3 := Lib.hid (HU2.out.trans g2 (fun k hk hlt => by have := (H2.out k hk).1; have := HU1.out.size; omega)); clear g1 g2))
    have HF1 := Lib.hid (show ∀ q, F1 q → w.heap.size ≤ q from fun q hq => Nat.le_trans HU1.out.size (H2.out q hq).1)
    go_loopg [11, 42] m (fun q ev iv wr => ∃ (j : Nat), j + q = m ∧ iv = .int .i64 j ∧ ev = .int .i64 (S j).2.2 ∧ Blk wr s t (blkL ((S j).1 ++ List.replicate (m - j) 0)) ∧ Rd F1 wr sr p (S j).2.1 ∧ Upd (One s) w wr)
    case atStart =>
      refine ⟨0, by omega, rfl, by rw [HS.out]; rfl, ?_, ?_, HU3.out.ofNil⟩
      · rw [HS.out]
        exact HB.out.upd HU3.out (fun f => f)
      · rw [HS.out]
        exact H3.out
    case round =>
      obtain ⟨j, hjk, rfl, rfl, hbk, hrd, hup⟩ := hrel
      have hSj : S (j + 1) = stepN p (S j) := by rw [HS.out]; rfl
      have hvl : (S j).1.length = j := by rw [HS.out]; exact length_numsS p p0 e0 j
      obtain ⟨⟨vs, q, ev⟩, hst⟩ : ∃ st, S j = st := ⟨_, rfl⟩
      rw [hst] at hSj hvl hbk hrd ⊢
      dsimp only at hvl hbk hrd ⊢
      have hjm : j ≤ m := by omega
      have HJ := Lib.hid hjk
      have HSj := Lib.hid hSj
      have HSt := Lib.hid hst
      have HV := Lib.hid hvl
      have HBk := Lib.hid hbk
      have HRd := Lib.hid hrd
      have HUp := Lib.hid hup
      have HPr := Lib.hid (HP.out.upd hup (fun q hq e => HG.out (e ▸ hq)))
      clear hjk hSj hst hvl hbk hrd hup
      by_cases hlt : j < m
      · obtain ⟨pb, po, rfl, _, hcell⟩ := rowAt HPr.out (ptrs_get hlt)
        have hz := set_zeros HV.out hlt
        have HZ := Lib.hid hz
        have hpos : j < (vs ++ List.replicate (m - j) 0).length := by rw [List.length_append, HV.out, List.length_replicate]; omega
        have HPos := Lib.hid hpos
        clear hz hpos
        by_cases he : ev = 0
        · subst he
          go_wp2_with (go_at_call 24; refine (rd_Uint _ HRd.out).mono ?_; rintro e w4 ⟨rfl, g1, g2⟩; have H4 := Lib.hid g1; have HU4 := Lib.hid g2; have hb4 := HBk.out.upd g2 (fun f => by have := HF1.out _ f; omega); have hd := hb4.cell (j + 1); rw [blkL_get HPos.out] at hd; have hfz := hb4.frozen (j + 1); have HB4 := Lib.hid hb4; clear g1 g2 hb4)
          go_roundg (gk - 1)
          case measure => have := HJ.out; omega
          case rel =>
            have hn : S (j + 1) = (vs ++ [((scanL (p.drop q)).1 : Int)], q + (scanL (p.drop q)).2.1, (scanL (p.drop q)).2.2) := by rw [HSj.out, stepN, if_pos rfl]
            have hset := (HB4.out.set (j + 1) (.int .i64 ((scanL (p.drop q)).1 : Int)))
            rw [blkL_set HPos.out, HZ.out] at hset
            refine ⟨j + 1, by have := HJ.out; omega, by go_num, by rw [hn], ?_, ?_, (HUp.out.trans HU4.out (fun k hk hlt => by have := HF1.out _ hk; omega)).setCell (p := ⟨s, j + 1, none⟩) (.inl rfl) _⟩
            · rw [hn]
              exact hset
            · rw [hn]
              exact H4.out.upd ((Upd.refl (One s) w4).setCell (p := ⟨s, j + 1, none⟩) (.inl rfl) _) (fun k hk e => by have := HF1.out _ hk; have : k = s := e; omega)
        · have he1 : (ev == 0) = false := by rw [beq_eq_false_iff_ne]; exact he
          have he2 : (ev != 0) = true := by rw [bne_iff_ne]; exact he
          go_wp2
          go_roundg (gk - 1)
          case measure => have := HJ.out; omega
          case rel =>
            have hn : S (j + 1) = (vs ++ [0], q, ev) := by rw [HSj.out, stepN, if_neg he]
            refine ⟨j + 1, by have := HJ.out; omega, by go_num, by rw [hn], ?_, ?_, HUp.out⟩
            · rw [hn]
              have := HBk.out
              rwa [← List.set_getElem_self HPos.out, HZ.out, List.getElem_append_right (by rw [HV.out]; exact Nat.le_refl _), List.getElem_replicate] at this
            · rw [hn]
              exact HRd.out
      · obtain rfl : j = m := by omega
        have hbk := HBk.out
        rw [Nat.sub_self, List.replicate_zero, List.append_nil] at hbk
        have HBm := Lib.hid hbk
        clear hbk
        obtain ⟨⟨x1, n1, f⟩, ht1⟩ : ∃ u, textR p.length (p.drop q) = u := ⟨_, rfl⟩
        obtain ⟨⟨x2, n2, g⟩, ht2⟩ : ∃ u, textR p.length (p.drop (q + n1)) = u := ⟨_, rfl⟩
        obtain ⟨n5, hn5⟩ : ∃ n, (p.drop (q + n1 + n2)).length = n := ⟨_, rfl⟩
        obtain ⟨R, hR⟩ : ∃ R, decide (k0 = k ∧ ev = 0 ∧ f = 0 ∧ g = 0 ∧ n5 = 0) = R := ⟨_, rfl⟩
        obtain ⟨z5, hz5⟩ : ∃ z, endZ n5 = z := ⟨_, rfl⟩
        have hE : parseEndL p k k0 (S j) = (vs, str x1, str x2, R) := by
          rw [HSt.out]
          unfold parseEndL
          dsimp only
          rw [ht1]
          dsimp only
          rw [ht2]
          dsimp only
          rw [hn5, hR]
        have H1t := Lib.hid ht1
        have H2t := Lib.hid ht2
        have H5 := Lib.hid hn5
        have HE := Lib.hid hE
        have HZ5 := Lib.hid hz5
        have hsix : (R = false ∧ ((k0 : Int) == (k : Int)) = false) ∨ (R = false ∧ k0 = k ∧ (ev == 0) = false) ∨ (R = false ∧ k0 = k ∧ ev = 0 ∧ (f == 0) = false) ∨ (R = false ∧ k0 = k ∧ ev = 0 ∧ f = 0 ∧ (g == 0) = false) ∨ (R = false ∧ k0 = k ∧ ev = 0 ∧ f = 0 ∧ g = 0 ∧ (z5 == 0) = false) ∨ (R = true ∧ k0 = k ∧ ev = 0 ∧ f = 0 ∧ g = 0 ∧ z5 = 0) := by
          have ez : z5 = 0 ↔ n5 = 0 := by
            rw [← hz5, endZ]
            split <;> omega
          simp only [beq_eq_false_iff_ne]
          rw [← hR, decide_eq_false_iff_not, decide_eq_true_eq]
          omega
        clear ht1 ht2 hn5 hR hz5 hE HP HB HUn H1 H2 HR1 H3 HK0 HS HSj HBk HPr
        have HQ := Lib.hid (show GotParse w s t (parseEndL p k k0 (S j)) = GotParse w s t (vs, str x1, str x2, R) by rw [HE.out])
        rcases hsix with ⟨rfl, c1⟩ | ⟨rfl, rfl, c2⟩ | ⟨rfl, rfl, rfl, c3⟩ | ⟨rfl, rfl, rfl, rfl, c4⟩ | ⟨rfl, rfl, rfl, rfl, rfl, c5⟩ | ⟨rfl, rfl, rfl, rfl, rfl, rfl⟩
        all_goals
          have tok := HRd
          go_wp2_with (first
            | (have _t := tok; go_at_call 25; refine (rd_Text _ HRd.out p.length).mono ?_; rintro e w4 hg; rw [H1t.out] at hg; dsimp only at hg; obtain ⟨rfl, g1, g2⟩ := hg; have H4 := Lib.hid g1; have HU4 := Lib.hid (HUp.out.trans g2 (fun k hk hlt => by have := HF1.out _ hk; omega)); have HB4 := Lib.hid (HBm.out.upd g2 (fun f => by have := HF1.out _ f; omega)); clear g1 g2 tok)
            | (go_at_call 25; refine (rd_Text _ H4.out p.length).mono ?_; rintro e w5 hg; rw [H2t.out] at hg; dsimp only at hg; obtain ⟨rfl, g1, g2⟩ := hg; have H6 := Lib.hid g1; have HU5 := Lib.hid (HU4.out.trans g2 (fun k hk hlt => by have := HF1.out _ hk; omega)); have HB5 := Lib.hid (HB4.out.upd g2 (fun f => by have := HF1.out _ f; omega)); clear g1 g2)
            | (go_at_call 97; refine (rd_End _ H6.out).mono ?_; rintro e w6 hg; rw [H5.out, HZ5.out] at hg; obtain ⟨rfl, g2⟩ := hg; have HU6 := Lib.hid (HU5.out.trans g2 (fun _ f _ => f.elim)); have HB6 := Lib.hid (HB5.out.upd g2 (fun f => f)); clear g2))
          go_ret3
          rw [HQ.out]
          first
            | exact ⟨rfl, HB6.out, HU6.out⟩
            | exact ⟨rfl, HB5.out, HU5.out⟩
end Go.Proofs.YtbaombnnagidcaaDoor
