/- The reader: Over, Uint, Text, Left. -/
import Derived.Test.YtbaombnnagidcaaDoorReader
namespace Go.Proofs.YtbaombnnagidcaaDoor
open Go.RowKit

theorem scanR_le : ∀ (l : List UInt8) (i acc : Nat), (scanR i acc l).2.1 ≤ i + l.length
  | [], i, acc => by simp [scanR]
  | c :: l, i, acc => by
    rw [scanR]
    split
    · simp
    · split
      · have := scanR_le l (i + 1) (acc + c.toNat % 128 * 128 ^ i)
        simp only [List.length_cons]
        omega
      · split
        · simp
        · simp only [List.length_cons]
          omega
theorem scanL_le (l : List UInt8) : (scanL l).2.1 ≤ l.length := by
  have := scanR_le l 0 0
  unfold scanL
  omega
theorem scanR_lt : ∀ (l : List UInt8) (i acc : Nat), i ≤ 9 → acc < 128 ^ i → (scanR i acc l).1 < 9223372036854775808
  | [], i, acc, _, _ => by simp [scanR]
  | c :: l, i, acc, hi, ha => by
    rw [scanR]
    split
    · simp
    · have hs := step_lt (y := c.toNat) ha
      split
      · exact scanR_lt l (i + 1) _ (by omega) hs
      · split
        · simp
        · have : (128 : Nat) ^ (i + 1) ≤ 9223372036854775808 := Nat.le_trans (Nat.pow_le_pow_right (by decide) (show i + 1 ≤ 9 by omega)) (by decide)
          show acc + c.toNat % 128 * 128 ^ i < _
          omega
theorem scanL_lt (l : List UInt8) : (scanL l).1 < 9223372036854775808 := scanR_lt l 0 0 (by omega) (by decide)

/-- a reader of one's own, at the beginning -/
def GotRd (w : World) (l : List UInt8) (e : Ending) (w' : World) : Prop :=
  ∃ s F, e = .returned (.pointer (some ⟨s, 0, none⟩)) ∧ Rd F w' s l 0 ∧ (∀ k, F k → Fr w w' k) ∧ Upd Nil w w'

theorem rd_Over {F : Nat → Prop} (w : World) {a : Option Addr} (c : Nat) {xs : List UInt8} (hr : Row F w a (bvs xs)) (hx : xs.length ≤ 140737488355328) :
    Calls Tryd.prog 23 #[.slice a xs.length c] w (GotRd w xs) := by
  have H := Lib.hid (slicesCloneB w c hr hx)
  clear hr
  go_enter Tryd.func23, Tryd.ntmps23
  go_wp2_with (go_at_call 53; refine H.out.mono ?_; rintro e w1 ⟨a1, c1, rfl, h1, h2⟩; have HO := Lib.hid h1; have HU := Lib.hid h2; clear h1 h2)
  go_ret
  have z := HU.out.size
  refine ⟨w1.heap.size, fun k => Fr w (w1.alloc (.cells #[.slice a1 xs.length c1, .int .i64 0, .bool true] 102)) k, rfl, ?_, fun k h => h, HU.out.alloc _⟩
  refine ⟨Fr w w1, a1, c1, ⟨z, by simp⟩, fun k hk => ⟨⟨hk.1, by have := hk.2; simp; omega⟩, by have := hk.2; omega⟩, Blk.new w1 _ _, (HO.out.alloc _).row, HO.out.noneCap, HO.out.le.1, HO.out.le.2, Nat.zero_le _⟩

theorem rd_Left {F : Nat → Prop} (w : World) {s : Nat} {l : List UInt8} {p : Nat} (h : Rd F w s l p) :
    Calls Tryd.prog 26 #[.pointer (some ⟨s, 0, none⟩)] w fun e w' => e = .returned (.int .i64 ((l.drop p).length : Nat)) ∧ Upd Nil w w' := by
  have HN := Lib.hid (rd_none_no w h)
  have HR := Lib.hid (rd_rest w h)
  clear h
  obtain ⟨xs, hxs⟩ : ∃ xs, l.drop p = xs := ⟨_, rfl⟩
  rw [hxs] at HR
  rw [hxs]
  clear hxs
  go_enter Tryd.func26, Tryd.ntmps26
  go_wp2_with (first
    | (go_at_call 58; refine HN.out.mono ?_; rintro e w' ⟨rfl, rfl⟩)
    | (go_at_call 56; refine HR.out.mono ?_; rintro e w1 ⟨a1, c1, rfl, _, _, _, _, h5⟩; have HU1 := Lib.hid h5; clear h5))
  go_ret
  exact ⟨rfl, HU1.out⟩

/-- what a call that moves the reader leaves -/
def RdGot (F : Nat → Prop) (w : World) (s : Nat) (v : Value) (l : List UInt8) (q : Nat) (e : Ending) (w' : World) : Prop := e = .returned v ∧ Rd F w' s l q ∧ Upd F w w'

set_option maxHeartbeats 1000000 in
theorem rd_Uint {F : Nat → Prop} (w : World) {s : Nat} {l : List UInt8} {p : Nat} (h : Rd F w s l p) :
    Calls Tryd.prog 24 #[.pointer (some ⟨s, 0, none⟩)] w (RdGot F w s (.tuple #[.int .i64 (scanL (l.drop p)).1, .int .i64 (scanL (l.drop p)).2.2]) l (p + (scanL (l.drop p)).2.1)) := by
  have HD := Lib.hid h
  have HN := Lib.hid (rd_none_no w h)
  have HS := Lib.hid (rd_scan w h)
  have hle := scanL_le (l.drop p)
  have hlt := scanL_lt (l.drop p)
  obtain ⟨R, a, c, h1, h2, h3, h4, h5, h6, h7, h8⟩ := h
  rw [List.length_drop] at hle
  have hc1 : w.cell? ⟨s, 1, none⟩ = some (.int .i64 p) := h3.cell 1
  have hs := h3.lt
  have hcm : c ≤ 9223372036854775807 := le_max h7
  have HB := Lib.hid h3
  have HFs := Lib.hid h1
  obtain ⟨⟨n, k, z⟩, hq⟩ : ∃ q, scanL (l.drop p) = q := ⟨_, rfl⟩
  rw [hq] at HS hle hlt ⊢
  dsimp only at HS hle hlt ⊢
  have HC1 := Lib.hid hc1
  clear h1 h2 h3 h4 h5 hq
  go_enter Tryd.func24, Tryd.ntmps24
  go_wp2_with (first
    | (go_at_call 58; refine HN.out.mono ?_; rintro e w' ⟨rfl, rfl⟩)
    | (go_at_call 59; refine HS.out.mono ?_; rintro e w1 ⟨rfl, g⟩; have HU := Lib.hid g; have hd := g.cell HC1.out (fun f => f); have hf := (HB.out.upd g (fun f => f)).frozen 1; have hs1 := (HB.out.upd g (fun f => f)).lt; clear g))
  go_ret2
  refine ⟨rfl, ?_, HU.out.ofNil.setCell (p := ⟨s, 1, none⟩) (.inl HFs.out) _⟩
  have := (HD.out.keep HU.out).move (q := p + k) (by omega)
  simpa using this
/-- a text at the beginning of bytes, of at most m bytes: it, how many bytes are read, the error -/
def textR (m : Nat) (l : List UInt8) : List UInt8 × Nat × Int :=
  if (scanL l).2.2 ≠ 0 then ([], 0, (scanL l).2.2) else if m < (scanL l).1 then ([], 0, 12) else if l.length - (scanL l).2.1 < (scanL l).1 then ([], 0, 10) else ((l.drop (scanL l).2.1).take (scanL l).1, (scanL l).2.1 + (scanL l).1, 0)

set_option maxRecDepth 100000 in
set_option maxHeartbeats 2000000 in
theorem rd_Text {F : Nat → Prop} (w : World) {s : Nat} {l : List UInt8} {p : Nat} (h : Rd F w s l p) (m : Nat) :
    Calls Tryd.prog 25 #[.pointer (some ⟨s, 0, none⟩), .int .i64 m] w (RdGot F w s (.tuple #[.string (str (textR m (l.drop p)).1), .int .i64 (textR m (l.drop p)).2.2]) l (p + (textR m (l.drop p)).2.1)) := by
  have HD := Lib.hid h
  have HN := Lib.hid (rd_none_no w h)
  have HS := Lib.hid (rd_scan w h)
  have hle := scanL_le (l.drop p)
  have hlt := scanL_lt (l.drop p)
  rw [List.length_drop] at hle
  unfold textR
  obtain ⟨⟨n, k, z⟩, hq⟩ : ∃ q, scanL (l.drop p) = q := ⟨_, rfl⟩
  rw [hq] at HS hle hlt ⊢
  dsimp only at HS hle hlt ⊢
  rw [List.length_drop, List.drop_drop]
  clear hq
  by_cases hz : z = 0
  · subst hz
    rw [if_neg (by decide)]
    by_cases hm : m < n
    · rw [if_pos hm]
      clear h
      go_enter Tryd.func25, Tryd.ntmps25
      go_wp2_with (first
        | (go_at_call 58; refine HN.out.mono ?_; rintro e w' ⟨rfl, rfl⟩)
        | (go_at_call 59; refine HS.out.mono ?_; rintro e w1 ⟨rfl, g⟩; have HU := Lib.hid g; clear g))
      go_ret2
      exact ⟨rfl, HD.out.keep HU.out, HU.out.ofNil⟩
    · rw [if_neg hm]
      have hm' : n ≤ m := by omega
      by_cases hl : l.length - p - k < n
      · rw [if_pos hl]
        clear h hm
        go_enter Tryd.func25, Tryd.ntmps25
        go_wp2_with (first
          | (go_at_call 58; refine HN.out.mono ?_; rintro e w' ⟨rfl, rfl⟩)
          | (go_at_call 59; refine HS.out.mono ?_; rintro e w1 ⟨rfl, g⟩; have HU := Lib.hid g; clear g)
          | (go_at_call 56; refine (rd_rest _ (HD.out.keep HU.out)).mono ?_; rintro e w2 ⟨a1, c1, rfl, _, _, _, _, h5⟩; have HU2 := Lib.hid h5; clear h5))
        go_ret2
        exact ⟨rfl, (HD.out.keep HU.out).keep HU2.out, (HU.out.trans HU2.out (fun _ f _ => f)).ofNil⟩
      · rw [if_neg hl]
        have hl' : n ≤ l.length - p - k := by omega
        obtain ⟨R, a, c, h1, h2, h3, h4, h5, h6, h7, h8⟩ := h
        have hc0 : w.cell? ⟨s, 0, none⟩ = some (.slice a l.length c) := h3.cell 0
        have hc1 : w.cell? ⟨s, 1, none⟩ = some (.int .i64 p) := h3.cell 1
        have hcm : c ≤ 9223372036854775807 := le_max h7
        obtain ⟨q, hq⟩ : ∃ q, p + k + n = q := ⟨_, rfl⟩
        obtain ⟨o, ho⟩ : ∃ o, p + k = o := ⟨_, rfl⟩
        have hcut : ((l.drop o).take n).length = n := by rw [List.length_take, List.length_drop]; omega
        obtain ⟨ys, hys⟩ : ∃ ys, (l.drop o).take n = ys := ⟨_, rfl⟩
        rw [hys] at hcut
        have HYs := Lib.hid hys
        have HCut := Lib.hid hcut
        rw [show (List.take n (l.drop (p + k))) = ys by rw [ho]; exact hys, show p + (k + n) = q by omega]
        clear hys hcut
        have e1 : (p : Int) + ((k : Int) + (n : Int)) = (q : Int) := by omega
        have e2 : (q : Int) - (n : Int) = (o : Int) := by omega
        have e3 : IntKind.i64.wrap ((q : Int) - (n : Int)) = (o : Int) := by rw [IntWalk.i64_in _ (by omega)]; omega
        have e4 : q - o = n := by omega
        have b1 : (0 : Int) ≤ (o : Int) := by omega
        have b2 : (o : Int) ≤ (q : Int) := by omega
        have b3 : (q : Int) ≤ (c : Int) := by omega
        have HB := Lib.hid h3
        have HFs := Lib.hid h1
        have HR := Lib.hid h4
        have HC0 := Lib.hid hc0
        have HC1 := Lib.hid hc1
        clear h1 h2 h3 h4 h5 hc0 hc1
        go_enter Tryd.func25, Tryd.ntmps25
        go_wp2_with (first
          | (go_at_call 58; refine HN.out.mono ?_; rintro e w' ⟨rfl, rfl⟩)
          | (go_at_call 59; refine HS.out.mono ?_; rintro e w1 ⟨rfl, g⟩; have HU := Lib.hid g; clear g)
          | (go_at_call 56; refine (rd_rest _ (HD.out.keep HU.out)).mono ?_; rintro e w2 ⟨a1, c1, rfl, _, _, _, _, h5⟩; have HU2 := Lib.hid (HU.out.trans h5 (fun _ f _ => f)); have hd0 := HU2.out.cell HC0.out (fun f => f); have hd1 := HU2.out.cell HC1.out (fun f => f); have hf := (HB.out.upd HU2.out (fun f => f)).frozen 1; have hs1 := (HB.out.upd HU2.out (fun f => f)).lt; clear h5))
        have hm := (HD.out.keep HU2.out).move (q := q) (by omega)
        have hu := HU2.out.ofNil (G := F) |>.setCell (p := ⟨s, 1, none⟩) (.inl HFs.out) (.int .i64 q)
        have g0 : (w2.setCell ⟨s, 1, none⟩ (.int .i64 q)).cell? ⟨s, 0, none⟩ = some (.slice a l.length c) := by
          have := (((HB.out.upd HU2.out (fun f => f))).set 1 (.int .i64 q)).cell 0
          simpa using this
        have g1 : (w2.setCell ⟨s, 1, none⟩ (.int .i64 q)).cell? ⟨s, 1, none⟩ = some (.int .i64 q) := by
          have := (((HB.out.upd HU2.out (fun f => f))).set 1 (.int .i64 q)).cell 1
          simpa using this
        obtain ⟨W, hW⟩ : ∃ W, w2.setCell ⟨s, 1, none⟩ (.int .i64 q) = W := ⟨_, rfl⟩
        rw [hW] at hm hu g0 g1
        obtain ⟨R', a', c', k1, k2, k3, k4, k5, k6, k7, k8⟩ := id hm
        have g0' : W.cell? ⟨s, 0, none⟩ = some (.slice a' l.length c') := k3.cell 0
        rw [g0] at g0'
        injection g0' with g0'
        injection g0' with ea _ ec
        subst ea; subst ec
        have HM := Lib.hid hm
        have HUW := Lib.hid hu
        have hRl := k4
        rw [hW]
        clear hm hu hW k1 k2 k3 k4 k5 k7 hd0 hd1 hf hs1
        have hys := HYs.out
        have hcut := HCut.out
        by_cases hco : c = o
        · have hy0 : ys = [] := List.eq_nil_of_length_eq_zero (by omega)
          have cv : ∀ (nq : Nat) (e : Nat), (convert 22 9 (.slice a n e)).run Tryd.prog (W.drewN nq) = .ok (.string (str ys)) (W.drewN nq) := fun nq e => by
            have := run_convert_Row (P := Tryd.prog) (F := Nil) (w := W.drewN nq) (a := a) (xs := ys) (by rw [hy0]; exact Row.nil _ _ _) 22 5 9 Tryd.underlying22 Tryd.underlying5 Tryd.underlying9 e
            rwa [hcut] at this
          clear hys hy0 hRl hq ho hcut
          go_quiet (fail)
          go_wp2
          go_ret2
          exact ⟨rfl, HM.out.keep ((Upd.refl Nil W).drewN _), HUW.out.drewN _⟩
        · have hrow : Row R' W (a.map (·.add o)) (bvs ys) := by
            have := (hRl.drop o c (by rw [length_bvs]; omega) (by rw [length_bvs]; exact h6)).take n
            rwa [if_neg hco, ← bvs_drop, ← bvs_take, hys] at this
          have cv : ∀ (nq : Nat) (e : Nat), (convert 22 9 (.slice (a.map (·.add o)) n e)).run Tryd.prog (W.drewN nq) = .ok (.string (str ys)) (W.drewN nq) := fun nq e => by
            have := run_convert_Row (P := Tryd.prog) (hrow.drewN nq) 22 5 9 Tryd.underlying22 Tryd.underlying5 Tryd.underlying9 e
            rwa [hcut] at this
          clear hys hRl hq ho hrow hcut
          go_quiet (fail)
          go_wp2
          go_ret2
          exact ⟨rfl, HM.out.keep ((Upd.refl Nil W).drewN _), HUW.out.drewN _⟩
  · rw [if_pos hz]
    clear h
    have hz' : (z != 0) = true := by rw [bne_iff_ne]; exact hz
    have hz2 : (z == 0) = false := by rw [beq_eq_false_iff_ne]; exact hz
    go_enter Tryd.func25, Tryd.ntmps25
    go_wp2_with (first
      | (go_at_call 58; refine HN.out.mono ?_; rintro e w' ⟨rfl, rfl⟩)
      | (go_at_call 59; refine HS.out.mono ?_; rintro e w1 ⟨rfl, g⟩; have HU := Lib.hid g; clear g))
    go_ret2
    exact ⟨rfl, HD.out.keep HU.out, HU.out.ofNil⟩
end Go.Proofs.YtbaombnnagidcaaDoor
