/- The log's sectors: little, join, sector of the program. -/
import Derived.Test.YtbaombnnagidcaaDoorZL05
import Derived.Laws.CopyOwn

namespace Go.Proofs.YtbaombnnagidcaaDoor
open Go.RowKit

/-- a number's bytes, the lowest first -/
def littleL : Nat → Nat → List UInt8
  | _, 0 => []
  | n, k + 1 => UInt8.ofNat (n % 256) :: littleL (n / 256) k
theorem length_littleL : ∀ (n k : Nat), (littleL n k).length = k
  | _, 0 => rfl
  | n, k + 1 => by rw [littleL, List.length_cons, length_littleL]
theorem littleL_get : ∀ (n k : Nat) {i : Nat} (h : i < (littleL n k).length), (littleL n k)[i] = UInt8.ofNat (n / 256 ^ i % 256)
  | _, 0, i, h => by simp [littleL] at h
  | n, k + 1, 0, _ => by simp [littleL]
  | n, k + 1, i + 1, h => by
    have := littleL_get (n / 256) k (i := i) (by simpa [littleL] using h)
    simp only [littleL, List.getElem_cons_succ]
    rw [this, Nat.div_div_eq_div_mul, Nat.pow_succ, Nat.mul_comm 256]
theorem littleL_four (n : Nat) : littleL n 4 = fourL n := by
  simp only [littleL, fourL, Nat.div_div_eq_div_mul]

/-- parts, one behind the other, with noughts up to so many bytes -/
def padL (size : Nat) (l : List UInt8) : List UInt8 := l ++ List.replicate (size - l.length) 0
theorem length_padL {size : Nat} {l : List UInt8} (h : l.length ≤ size) : (padL size l).length = size := by rw [padL, List.length_append, List.length_replicate]; omega
/-- a sector of the log, without its sum -/
def headL (place first : Nat) (load : List UInt8) : List UInt8 := padL 124 ([76, UInt8.ofNat load.length] ++ littleL place 2 ++ littleL first 8 ++ load)
def sectorL (place first : Nat) (load : List UInt8) : List UInt8 := headL place first load ++ fourL (sumL (headL place first load))
theorem length_headL {place first : Nat} {load : List UInt8} (h : load.length ≤ 112) : (headL place first load).length = 124 := by
  refine length_padL ?_
  simp only [List.length_append, List.length_cons, List.length_nil, length_littleL]
  omega
theorem length_sectorL {place first : Nat} {load : List UInt8} (h : load.length ≤ 112) : (sectorL place first load).length = 128 := by
  rw [sectorL, List.length_append, length_headL h, length_fourL]

theorem little_cell (v j : Nat) : Value.int .u8 ((v : Int) / 2 ^ (8 * j) % 256) = bv (UInt8.ofNat (v / 256 ^ j % 256)) := by
  have e : ((v : Int) / 2 ^ (8 * j)) = ((v / 256 ^ j : Nat) : Int) := by
    rw [show (256 : Nat) = 2 ^ 8 from rfl, ← Nat.pow_mul]
    push_cast
    rfl
  rw [e]
  exact byteAt (v / 256 ^ j)
theorem little_set (v : Nat) {j k : Nat} (h : j < k) : (bvs ((littleL v k).take j ++ List.replicate (k - j) 0)).set j (bv (UInt8.ofNat (v / 256 ^ j % 256))) = bvs ((littleL v k).take (j + 1) ++ List.replicate (k - (j + 1)) 0) := by
  have hl := length_littleL v k
  have e1 : ((littleL v k).take j).length = j := by rw [List.length_take, hl]; omega
  have e2 : List.replicate (k - j) (0 : UInt8) = 0 :: List.replicate (k - (j + 1)) 0 := by
    rw [show k - j = (k - (j + 1)) + 1 by omega, List.replicate_succ]
  have e3 : (littleL v k).take (j + 1) = (littleL v k).take j ++ [UInt8.ofNat (v / 256 ^ j % 256)] := by
    rw [List.take_succ_eq_append_getElem (by omega), littleL_get]
  rw [bvs, ← List.map_set, List.set_append_right _ _ (by omega), e1, Nat.sub_self, e2, List.set_cons_zero, e3, List.append_assoc]
  rfl

set_option maxHeartbeats 1000000 in
theorem log_little (w : World) (v : Nat) (k : Nat) (hk : k ≤ 8) :
    Calls Tryd.prog 102 #[.int .u64 (v : Int), .int .i64 (k : Int)] w (RetOwn w 5 1 k (bvs (littleL v k))) := by
  have hmk := makeBytes (n := k) (z := (k : Int)) rfl (by omega) w
  have HO := Lib.hid (own_zeros w (n := k) (by simp only [maxLen]; omega))
  obtain ⟨W, hW⟩ : ∃ W, w.alloc (.cells (Array.replicate k (Value.int .u8 0)) 5) = W := ⟨_, rfl⟩
  have HU := Lib.hid (show Upd Nil w W by rw [← hW]; exact (Upd.refl Nil w).alloc _)
  have HZ := Lib.hid (show W.heap.size = w.heap.size + 1 by rw [← hW]; simp)
  rw [hW] at hmk HO
  clear hW
  go_enter Tryd.func102, Tryd.ntmps102
  go_wp2
  go_loopg [11] k (fun q i wr => ∃ j : Nat, j + q = k ∧ i = .int .i64 j ∧ Own (One w.heap.size) wr 5 1 (some ⟨w.heap.size, 0, none⟩) k k (bvs ((littleL v k).take j ++ List.replicate (k - j) 0)) ∧ Upd (One w.heap.size) W wr)
  case atStart => exact ⟨0, by omega, rfl, by simpa using HO.out, Upd.refl _ _⟩
  case round =>
    obtain ⟨j, hjk, rfl, hown, hup⟩ := hrel
    have hjn : j ≤ k := by omega
    have HJ := Lib.hid hjk
    have HOw := Lib.hid hown
    have HUp := Lib.hid hup
    clear hjk hown hup
    by_cases hlt : j < k
    · have hc := HOw.out.there rfl (j := j) (by omega)
      have hf := HOw.out.frozen rfl j
      obtain ⟨u, hu⟩ := hc
      have hst := HOw.out.stored rfl j (.int .u8 ((v : Int) / 2 ^ (8 * j) % 256))
      rw [little_cell v j, little_set v hlt] at hst
      have HSt := Lib.hid hst
      clear hst
      go_wp2
      go_roundg (gk - 1)
      case measure => have := HJ.out; omega
      case rel =>
        refine ⟨j + 1, by have := HJ.out; omega, by go_num, ?_, HUp.out.setCell (p := ⟨w.heap.size, j, none⟩) (.inl rfl) _⟩
        have := HSt.out
        rwa [← little_cell v j] at this
    · obtain rfl : j = k := by omega
      go_wp2
      go_ret
      have ho := HOw.out
      rw [Nat.sub_self, List.replicate_zero, List.append_nil, List.take_of_length_le (by rw [length_littleL]; exact Nat.le_refl _)] at ho
      have hz := HUp.out.size
      refine ⟨some ⟨w.heap.size, 0, none⟩, j, rfl, ho.fresh (fun q hq => by have : q = w.heap.size := hq; omega), HU.out.past HUp.out (fun q hq => by have : q = w.heap.size := hq; omega)⟩

/-- bytes of which many come first -/
theorem splice_pad {l ys : List UInt8} {size : Nat} (h : l.length + ys.length ≤ size) : splice (bvs (padL size l)) l.length (bvs ys) = bvs (padL size (l ++ ys)) := by
  unfold splice padL
  rw [bvs_append, List.take_left' (length_bvs l), length_bvs, ← bvs_append]
  have hd : (bvs (l ++ List.replicate (size - l.length) 0)).drop (l.length + ys.length) = bvs (List.replicate (size - (l ++ ys).length) 0) := by
    rw [← bvs_drop, List.drop_append, List.drop_eq_nil_of_le (by omega), List.nil_append, List.drop_replicate, List.length_append]
    congr 2
    omega
  rw [hd]
  simp [bvs]

set_option maxRecDepth 100000 in
set_option maxHeartbeats 2000000 in
theorem log_join {F E : Nat → Prop} (w : World) {size : Nat} (hsz : size ≤ 1000) {A : Option Addr} {n c : Nat} {vs : List Value} {xss : List (List UInt8)} (hA : Row F w A vs) (hall : All2 (Elem E w) vs xss) (hn : xss.length = n) (hn2 : n ≤ 1000) (hl : xss.flatten.length ≤ size) :
    Calls Tryd.prog 101 #[.int .i64 (size : Int), .slice A n c] w (RetOwn w 5 1 size (bvs (padL size xss.flatten))) := by
  subst hn
  have HA := Lib.hid hA
  have HAll := Lib.hid hall
  have HL := Lib.hid hl
  obtain ⟨i0, hi, hz0, hz1, hz2⟩ := info_parts infoU8
  have hinf : (Tryd.prog.info? 5).map (·.size) = some 1 := by rw [hi]; exact congrArg some hz1
  have HI := Lib.hid hinf
  have hmk := makeBytes (n := size) (z := (size : Int)) rfl (by omega) w
  obtain ⟨W, hW⟩ : ∃ W, w.alloc (.cells (Array.replicate size (Value.int .u8 0)) 5) = W := ⟨_, rfl⟩
  have HU := Lib.hid (show Upd Nil w W by rw [← hW]; exact (Upd.refl Nil w).alloc _)
  have HB := Lib.hid (show W.heap[w.heap.size]? = some (.cells (bvs (padL size [])).toArray 5 (0, 0)) by
    rw [← hW]
    have := Blk.new w 5 (Array.replicate size (Value.int .u8 0))
    have e : (bvs (padL size [])).toArray = Array.replicate size (Value.int .u8 0) := by
      apply Array.toList_inj.1
      simp [padL, bvs, bv]
    rw [e]
    exact this)
  rw [hW] at hmk
  clear hW hA hall hl hi hz0 hz1 hz2 hinf
  go_enter Tryd.func101, Tryd.ntmps101
  go_wp2
  go_loopg [6, 13] xss.length (fun q av iv wr => ∃ j t : Nat, j + q = xss.length ∧ iv = .int .i64 j ∧ av = .int .i64 (t : Int) ∧ t = (xss.take j).flatten.length ∧ wr.heap[w.heap.size]? = some (.cells (bvs (padL size (xss.take j).flatten)).toArray 5 (0, 0)) ∧ Below w.heap.size w wr)
  case atStart => exact ⟨0, 0, by omega, rfl, rfl, by simp, by simpa using HB.out, HU.out.below⟩
  case round =>
    obtain ⟨j, t, hjk, rfl, rfl, ht, hg, hbl⟩ := hrel
    have hjn : j ≤ xss.length := by omega
    have htl : t ≤ size := by have := flatten_take_le xss j; have := HL.out; omega
    have HJ := Lib.hid hjk
    have HTt := Lib.hid ht
    have HG := Lib.hid hg
    have HBl := Lib.hid hbl
    clear hjk ht hg hbl
    by_cases hlt : j < xss.length
    · obtain ⟨v, hv, a, ca, rfl, ra, na, la, ma⟩ := HAll.out.get hlt
      have hup : Upd Nil w wr := Upd.ofBelow HBl.out
      obtain ⟨b, o, rfl, _, hcell0⟩ := rowAt HA.out hv
      have hcell := hup.cell hcell0 (fun f => f)
      have HRa := Lib.hid (ra.keep hup)
      have hft := flatten_take_succ hlt
      have hfl := flatten_take_le xss (j + 1)
      rw [hft, List.length_append, ← HTt.out] at hfl
      have hxl : t + (xss[j]).length ≤ size := by have := HL.out; omega
      obtain ⟨ys, hys⟩ : ∃ ys, xss[j] = ys := ⟨_, rfl⟩
      rw [hys] at hft hxl hcell HRa
      obtain ⟨l, hl⟩ : ∃ l, (xss.take j).flatten = l := ⟨_, rfl⟩
      have HFt := Lib.hid hft
      have HLl := Lib.hid hl
      have HGl := Lib.hid (show wr.heap[w.heap.size]? = some (.cells (bvs (padL size l)).toArray 5 (0, 0)) by rw [← hl]; exact HG.out)
      have htl2 : l.length = t := by rw [← hl]; exact HTt.out.symm
      have HT2 := Lib.hid htl2
      have b1 : (0 : Int) ≤ (t : Int) := by omega
      have b2 : (t : Int) ≤ (size : Int) := by omega
      clear hv ra na la ma hft hfl hcell0 hys hl htl2 hup
      by_cases hst : size = t
      case' pos => subst hst
      all_goals
        go_wp2_with (refine wpList_copy_splice rfl (.tmp 20) (.tmp 21) 22 22 rfl 5 Tryd.underlying22 HI.out _ _ _ _ _ _ rfl rfl w.heap.size _ (bvs (padL _ l)) 5 HGl.out (bvs ys) (by rw [length_bvs]; exact (Nat.min_eq_left (by omega)).symm) (fun h => by
            rw [length_bvs] at h
            obtain ⟨b2, o2, e2, _, hc2⟩ := HRa.out (by intro e; rw [← length_bvs ys, e] at h; exact absurd h (Nat.lt_irrefl 0))
            first
              | (exfalso; omega)
              | exact ⟨rfl, _, e2, fun j' v' hv => by rw [Addr.add_lit]; exact hc2 j' v' hv⟩) (by rw [length_bvs, length_bvs, length_padL (by have := HT2.out; omega)]; omega) (bvs_one ys) w.heap.size w HBl.out (Nat.le_refl _) ?_; intro w2 hg2 hb2; have HG2 := hg2; have HB2 := Lib.hid hb2; clear hb2)
      all_goals
        have hg2 := HG2.out
        have hsp := splice_pad (l := l) (ys := ys) (size := size) (by have := HT2.out; omega)
        rw [HT2.out] at hsp
        rw [hsp] at hg2
        have hfl : l ++ ys = (xss.take (j + 1)).flatten := by rw [HFt.out, HLl.out]
        rw [hfl] at hg2
        have HG3 := Lib.hid hg2
        clear hg2 HG2
        go_roundg (gk - 1)
        case measure => have := HJ.out; omega
        case rel => exact ⟨j + 1, _ + ys.length, by have := HJ.out; omega, by go_num, by go_num, by rw [HFt.out, HLl.out, List.length_append, HT2.out], HG3.out, HB2.out⟩
    · obtain rfl : j = xss.length := by omega
      have hg := HG.out
      rw [List.take_length] at hg
      have hup := Upd.ofBelow (G := Nil) HBl.out
      have hz := HBl.out.size
      have HG2 := Lib.hid hg
      clear hg
      go_wp2
      go_ret
      refine ⟨some ⟨w.heap.size, 0, none⟩, size, rfl, ⟨by rw [length_bvs, length_padL HL.out, Nat.mul_one], .inr ⟨w.heap.size, _, rfl, ⟨Nat.le_refl _, ?_⟩, HG2.out, Nat.le_refl _, by simp only [maxLen]; omega, ?_, ?_⟩⟩, hup⟩
      · have := (Array.getElem?_eq_some_iff.1 HG2.out).1
        exact this
      · rw [List.size_toArray, length_bvs, length_padL HL.out, Nat.mul_one]
      · rw [Nat.mul_one]
        exact List.take_of_length_le (by rw [length_bvs, length_padL HL.out]; exact Nat.le_refl _)

theorem log_join4 (w : World) {E1 E2 E3 E4 : Nat → Prop} {v1 v2 v3 v4 : Value} {x1 x2 x3 x4 : List UInt8} (h1 : Elem E1 w v1 x1) (h2 : Elem E2 w v2 x2) (h3 : Elem E3 w v3 x3) (h4 : Elem E4 w v4 x4) (hl : (x1 ++ x2 ++ x3 ++ x4).length ≤ 124) :
    Calls Tryd.prog 101 #[.int .i64 124, .slice (some ⟨w.heap.size, 0, none⟩) 4 4] (w.alloc (.cells #[v1, v2, v3, v4] 22)) (RetOwn (w.alloc (.cells #[v1, v2, v3, v4] 22)) 5 1 124 (bvs (padL 124 (x1 ++ x2 ++ x3 ++ x4)))) := by
  have e : ([x1, x2, x3, x4] : List (List UInt8)).flatten = x1 ++ x2 ++ x3 ++ x4 := by simp
  have al : Upd Nil w (w.alloc (.cells #[v1, v2, v3, v4] 22)) := (Upd.refl Nil w).alloc _
  have hrow : Row (One w.heap.size) (w.alloc (.cells #[v1, v2, v3, v4] 22)) (some ⟨w.heap.size, 0, none⟩) [v1, v2, v3, v4] :=
    (Own.lit (t := 22) (sz := 1) w #[v1, v2, v3, v4] 4 (by decide) rfl).row
  have := log_join (n := 4) (c := 4) (E := fun _ => True) (w.alloc (.cells #[v1, v2, v3, v4] 22)) (size := 124) (by decide) (xss := [x1, x2, x3, x4]) hrow ⟨(h1.keep al).mono (fun _ _ => trivial), (h2.keep al).mono (fun _ _ => trivial), (h3.keep al).mono (fun _ _ => trivial), (h4.keep al).mono (fun _ _ => trivial), trivial⟩ rfl (by decide) (by rw [e]; exact hl)
  rw [e] at this
  exact this

set_option maxRecDepth 100000 in
set_option maxHeartbeats 2000000 in
theorem log_sector {F : Nat → Prop} (w : World) (place first : Nat) (hp : place < 65536) (hf : first < 9223372036854775808) {a : Option Addr} (c : Nat) {load : List UInt8} {n : Nat} (hr : Row F w a (bvs load)) (hA : a = none → c = 0) (hlc : load.length ≤ c) (hcm : c ≤ maxLen) (hn : load.length = n) (hl : n ≤ 112) (tab : Tab w) :
    Calls Tryd.prog 77 #[.int .i64 (place : Int), .int .i64 (first : Int), .slice a n c] w (RetOwn w 5 1 128 (bvs (sectorL place first load))) := by
  subst hn
  have HR := Lib.hid hr
  have HA := Lib.hid (And.intro hA (And.intro hlc hcm))
  have HT := Lib.hid tab
  obtain ⟨i0, hi, hz0, hz1, hz2⟩ := info_parts infoU8
  have hi0 := Lib.hid (And.intro hi (And.intro hz0 (And.intro hz1 hz2)))
  clear hr hA hlc hcm tab hi hz0 hz1 hz2
  go_enter Tryd.func77, Tryd.ntmps77
  have hln : (UInt8.ofNat load.length).toNat = load.length := toNat_ofNat8 (by omega)
  have HL1 := Lib.hid (show Own (One w.heap.size) (w.alloc (.cells #[.int .u8 76, .int .u8 (load.length : Int)] 5)) 5 1 (some ⟨w.heap.size, 0, none⟩) 2 2 (bvs [76, UInt8.ofNat load.length]) by
    have := Own.lit (t := 5) (sz := 1) w #[.int .u8 76, .int .u8 (load.length : Int)] 2 (by decide) rfl
    have e : bvs [76, UInt8.ofNat load.length] = [.int .u8 76, .int .u8 (load.length : Int)] := by
      show [bv 76, bv (UInt8.ofNat load.length)] = _
      unfold bv
      rw [hln]
      rfl
    rw [e]
    exact this)
  obtain ⟨x2, hx2⟩ : ∃ x, littleL place 2 = x := ⟨_, rfl⟩
  obtain ⟨x3, hx3⟩ : ∃ x, littleL first 8 = x := ⟨_, rfl⟩
  obtain ⟨x1, hx1⟩ : ∃ x, [76, UInt8.ofNat load.length] = x := ⟨_, rfl⟩
  obtain ⟨hd, hhd⟩ : ∃ h, headL place first load = h := ⟨_, rfl⟩
  have hpad : padL 124 (x1 ++ x2 ++ x3 ++ load) = hd := by rw [← hhd, headL, hx1, hx2, hx3]
  have hl1 : x1.length = 2 := by rw [← hx1]; rfl
  have hl2 : x2.length = 2 := by rw [← hx2]; exact length_littleL place 2
  have hl3 : x3.length = 8 := by rw [← hx3]; exact length_littleL first 8
  have hcat : (x1 ++ x2 ++ x3 ++ load).length ≤ 124 := by rw [List.length_append, List.length_append, List.length_append]; omega
  have hdl : hd.length = 124 := by rw [← hhd]; exact length_headL hl
  have hsum := sumL_lt hd
  obtain ⟨sm, hsm⟩ : ∃ s, sumL hd = s := ⟨_, rfl⟩
  rw [hsm] at hsum
  obtain ⟨x4, hx4⟩ : ∃ x, littleL sm 4 = x := ⟨_, rfl⟩
  have hl4 : x4.length = 4 := by rw [← hx4]; exact length_littleL sm 4
  have hsec : hd ++ x4 = sectorL place first load := by rw [sectorL, hhd, hsm, ← hx4, littleL_four]
  rw [← hsec]
  rw [hx1] at HL1
  have HX2 := Lib.hid hx2
  have HX3 := Lib.hid hx3
  have HX4 := Lib.hid hx4
  have HPad := Lib.hid hpad
  have HCat := Lib.hid hcat
  have HHd := Lib.hid hdl
  have HSm := Lib.hid hsm
  have HE1 := Lib.hid (show Elem (One w.heap.size) (w.alloc (.cells #[.int .u8 76, .int .u8 (load.length : Int)] 5)) (.slice (some ⟨w.heap.size, 0, none⟩) 2 2) x1 from ⟨some ⟨w.heap.size, 0, none⟩, 2, by rw [hl1], HL1.out.row, (fun h => by cases h), (by omega), (by decide)⟩)
  have HN2 := Lib.hid hl2
  have HN3 := Lib.hid hl3
  have HN4 := Lib.hid hl4
  clear hx1 hx2 hx3 hx4 hpad hcat hdl hsm hl1 hl2 hl3 hl4 hhd hsec hln
  have tokA : True := trivial
  have tokB : True := trivial
  go_wp2_with (first
    | (have _t := tokA; go_at_call 102; refine (log_little _ place 2 (by decide)).mono ?_; rintro e w1 hg; rw [HX2.out] at hg; obtain ⟨a1, c1, rfl, g1, g2⟩ := hg; have HU1 := Lib.hid (((Upd.refl Nil w).alloc _).trans g2 (fun _ f _ => f)); have HE2 := Lib.hid (show Elem (Fr (w.alloc (.cells #[.int .u8 76, .int .u8 (load.length : Int)] 5)) w1) w1 (.slice a1 2 c1) x2 from ⟨a1, c1, by rw [HN2.out], g1.row, g1.noneCap, by rw [HN2.out]; exact g1.le.1, g1.le.2⟩); have HE1' := Lib.hid (HE1.out.keep g2); clear g1 g2 tokA)
    | (have _t := tokB; go_at_call 102; refine (log_little _ first 8 (by decide)).mono ?_; rintro e w2 hg; rw [HX3.out] at hg; obtain ⟨a2, c2, rfl, g1, g2⟩ := hg; have HU2 := Lib.hid (HU1.out.trans g2 (fun _ f _ => f)); have HE3 := Lib.hid (show Elem (Fr w1 w2) w2 (.slice a2 8 c2) x3 from ⟨a2, c2, by rw [HN3.out], g1.row, g1.noneCap, by rw [HN3.out]; exact g1.le.1, g1.le.2⟩); have HE1'' := Lib.hid (HE1'.out.keep g2); have HE2' := Lib.hid (HE2.out.keep g2); clear g1 g2 tokB)
    | (go_at_call 101; refine (log_join4 w2 HE1''.out HE2'.out HE3.out ⟨a, c, rfl, HR.out.keep HU2.out, HA.out⟩ HCat.out).mono ?_; rintro e w3 hg; rw [HPad.out] at hg; obtain ⟨a3, c3, rfl, g1, g2⟩ := hg; have HU3 := Lib.hid ((HU2.out.alloc _).trans g2 (fun _ f _ => f)); have HO3 := Lib.hid (g1.fresh (w0 := w) (fun q hq => Nat.le_trans (HU2.out.alloc _).size hq.1)); clear g1 g2)
    | (go_at_call 19; have hs := wire_Sum w3 c3 HO3.out.row (by have := HHd.out; omega) (HT.out.upd HU3.out (fun f => f)); rw [HHd.out, HSm.out] at hs; refine hs.mono ?_; clear hs; rintro e w4 ⟨rfl, rfl⟩)
    | (go_at_call 102; refine (log_little _ sm 4 (by decide)).mono ?_; rintro e w5 hg; rw [HX4.out] at hg; obtain ⟨a5, c5, rfl, g1, g2⟩ := hg; have HU5 := Lib.hid (HU3.out.trans g2 (fun _ f _ => f)); have HO5 := Lib.hid g1; have HO3' := Lib.hid ((HO3.out.keep g2).mono (Fr.on g2.size)); clear g1 g2)
    | (at_builtin; refine wpList_append_Own rfl (.tmp 21) (.tmp 25) 22 rfl Tryd.underlying22 hi0.out.1 hi0.out.2.1 hi0.out.2.2.1 hi0.out.2.2.2 rfl (by decide) rfl HO3'.out rfl HO5.out.row (by rw [length_bvs]; exact HN4.out) (bvs_one _) HO5.out.noneCap (by simp only [maxLen]; omega) (by omega) ?_; intro a6 c6 w6 g1 g2 _; rw [← bvs_append] at g1; have HO6 := Lib.hid (g1.fresh (w0 := w) (fresh_or HU5.out.size)); have HU6 := Lib.hid (HU5.out.past g2 (fun _ hk => hk.1)); clear g1 g2))
  go_ret
  exact ⟨a6, c6, rfl, HO6.out, HU6.out⟩
end Go.Proofs.YtbaombnnagidcaaDoor
