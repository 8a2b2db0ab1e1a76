/- The law's own 'written': a disk of four sectors with at most 40 writes pending. -/
import Derived.Test.YtbaombnnagidcaaDiskNew
import Derived.Test.YtbaombnnagidcaaDisk3
import Derived.Test.YtbaombnnagidcaaZeros
import Derived.Test.YtbaombnnagidcaaOpen
namespace Go.Proofs.Ytbaombnnagidcaa
open Go.RowKit

/-- a call of a disk, as the law's argument holds it: its number, a place, bytes, places -/
abbrev DoD := Int × Int × List UInt8 × List Int
def Calls02 (w : World) (a : Option Addr) (n : Nat) (d : Nat → DoD) : Prop :=
  ∀ j, j < n → ∃ b o ab cb ak ck, a = some ⟨b, o, none⟩ ∧ w.cell? ⟨b, o + j * 4, none⟩ = some (.int .i64 (d j).1) ∧ w.cell? ⟨b, o + j * 4 + 1, none⟩ = some (.int .i64 (d j).2.1) ∧
    w.cell? ⟨b, o + j * 4 + 2, none⟩ = some (.slice ab (d j).2.2.1.length cb) ∧ w.cell? ⟨b, o + j * 4 + 3, none⟩ = some (.slice ak (d j).2.2.2.length ck) ∧
    Row (Old w) w ab (bvs (d j).2.2.1) ∧ (ab = none → cb = 0) ∧ (d j).2.2.1.length ≤ 140737488355328 ∧ (d j).2.2.1.length ≤ cb ∧ Row (Old w) w ak (ivs (d j).2.2.2) ∧ (d j).2.2.2.length * 8 ≤ 140737488355328

/-- the write of a call: its place, its bytes filled up -/
def writeOf (d : DoD) : Snt := ((IntKind.u64.wrap d.2.1 % 4).toNat, d.2.2.1.take 128 ++ List.replicate (128 - min d.2.2.1.length 128) 0)
def writesOf (d : Nat → DoD) (n : Nat) : List Snt := (List.range (min n 40)).map (fun j => writeOf (d j))
theorem length_writesOf (d : Nat → DoD) (n : Nat) : (writesOf d n).length = min n 40 := by simp [writesOf]
theorem writesOf_succ (d : Nat → DoD) {n : Nat} (h : n < 40) : writesOf d (n + 1) = writesOf d n ++ [writeOf (d n)] := by
  simp [writesOf, Nat.min_eq_left (show n + 1 ≤ 40 by omega), Nat.min_eq_left (show n ≤ 40 by omega), List.range_succ]
theorem writesOf_stop (d : Nat → DoD) {n : Nat} (h : 40 ≤ n) : writesOf d (n + 1) = writesOf d n := by
  simp [writesOf, Nat.min_eq_right (show 40 ≤ n + 1 by omega), Nat.min_eq_right h]
theorem length_writeOf (d : DoD) : (writeOf d).2.length = 128 := by
  simp only [writeOf, List.length_append, List.length_take, List.length_replicate]
  omega
theorem place_writeOf (d : DoD) : (writeOf d).1 < 4 := by
  have := Int.emod_lt_of_pos (IntKind.u64.wrap d.2.1) (show (0 : Int) < 4 by decide)
  have := Int.emod_nonneg (IntKind.u64.wrap d.2.1) (show (4 : Int) ≠ 0 by decide)
  simp only [writeOf]
  omega

theorem bytesClone_128 {F : Nat → Prop} (w : World) {a : Option Addr} (c : Nat) {ys : List UInt8} (hr : Row F w a (bvs ys)) (hy : ys.length = 128) :
    Calls Try.prog 26 #[.slice a 128 c] w (RetOwn w 5 1 128 (bvs ys)) := by
  have := bytesClone w c hr (by rw [hy]; decide)
  rwa [hy] at this
theorem u64_nonneg (i : Int) : 0 ≤ IntKind.u64.wrap i := by
  rw [IntKind.wrap_u64]
  omega
theorem place_eq (i : Int) : IntKind.i64.wrap ((IntKind.u64.wrap i).tmod 4) = (((IntKind.u64.wrap i % 4).toNat : Nat) : Int) := by
  have h0 := u64_nonneg i
  have h1 := Int.emod_lt_of_pos (IntKind.u64.wrap i) (show (0 : Int) < 4 by decide)
  have h2 := Int.emod_nonneg (IntKind.u64.wrap i) (show (4 : Int) ≠ 0 by decide)
  rw [Int.tmod_eq_emod_of_nonneg h0, IntWalk.i64_in _ (by omega)]
  omega

theorem disk_Write_128 {F G : Nat → Prop} (w : World) {s : Nat} {B : List (List UInt8)} {P : List Snt} (h : DiskRep F w s B P) {i : Nat} (hi : i < B.length) (hP : P.length ≤ 4000000000000) {a : Option Addr} (c : Nat) {xs : List UInt8} (hr : Row G w a (bvs xs)) (hx : xs.length = 128) :
    Calls Try.prog 39 #[.pointer (some ⟨s, 0, none⟩), .int .i64 i, .slice a 128 c] w (DGot 78 F w s (.int .i64 0) B (P ++ [(i, xs)])) := by
  have := disk_Write_yes w h hi hP c hr hx
  rwa [hx] at this

/-- four sectors of noughts -/
def four : List (List UInt8) := List.replicate 4 noughts
theorem length_four : four.length = 4 := by simp [four]
theorem disk_New_4 (w : World) : Calls Try.prog 43 #[.int .i64 4] w (GotDisk 78 w four) := disk_New_yes w (n := 4) (by decide) (by decide)

/-- a disk that is handed back alone -/
def GotAlone (w : World) (B : List (List UInt8)) (P : List Snt) (e : Ending) (w' : World) : Prop :=
  ∃ s F, e = .returned (.pointer (some ⟨s, 0, none⟩)) ∧ DiskRep F w' s B P ∧ (∀ k, F k → Fr w w' k) ∧ Upd Nil w w'

set_option maxRecDepth 100000 in
set_option maxHeartbeats 2000000 in
theorem written (w : World) {a : Option Addr} {n : Nat} (c : Nat) {d : Nat → DoD} (h : Calls02 w a n d) (hn : n ≤ 9223372036854775807) :
    Calls Try.prog 34 #[.slice a n c] w (GotAlone w four (writesOf d n)) := by
  have HC := Lib.hid h
  clear h
  go_enter Try.func34, Try.ntmps34
  go_wp2_with (go_at_call 43; refine (disk_New_4 _).mono ?_; rintro e w1 ⟨s, F, rfl, hb, hF, hu⟩; have HB := Lib.hid hb; have HF := Lib.hid hF; have HU := Lib.hid hu; clear hb hF hu)
  go_loopg [16] n (fun k i wr => ∃ j : Nat, j + k = n ∧ i = .int .i64 j ∧ ∃ F', DiskRep F' wr s four (writesOf d j) ∧ (∀ k, F' k → Fr w wr k) ∧ Upd Nil w wr)
  case atStart => exact ⟨0, by omega, rfl, F, HB.out, HF.out, HU.out⟩
  case round =>
    obtain ⟨j, hjk, rfl, F', hrep, hF', hup⟩ := hrel
    have hjn : j ≤ n := by omega
    have HJ := Lib.hid hjk
    have HR := Lib.hid hrep
    have HF' := Lib.hid hF'
    have HU' := Lib.hid hup
    clear hjk hrep hF' hup
    by_cases hlt : j < n
    · obtain ⟨b, o, ab, cb, ak, ck, rfl, e0, e1, e2, e3, hrow, hnn, hlen, hcap, _, _⟩ := HC.out j hlt
      have hwo : writeOf (d j) = ((IntKind.u64.wrap (d j).2.1 % 4).toNat, (d j).2.2.1.take 128 ++ List.replicate (128 - min (d j).2.2.1.length 128) 0) := rfl
      obtain ⟨⟨op, i, xs, ks⟩, hdj⟩ : ∃ q, d j = q := ⟨_, rfl⟩
      rw [hdj] at e0 e1 e2 e3 hrow hlen hwo hcap
      dsimp only at e0 e1 e2 e3 hrow hlen hwo hcap
      have q0 := HU'.out.cell e0 (fun f => f)
      have q1 := HU'.out.cell e1 (fun f => f)
      have q2 := HU'.out.cell e2 (fun f => f)
      have q3 := HU'.out.cell e3 (fun f => f)
      have HRow := Lib.hid (hrow.keep HU'.out)
      have HWo := Lib.hid (hdj ▸ hwo : writeOf (d j) = _)
      clear e0 e1 e2 e3 hrow hwo hdj
      by_cases h40 : j < 40
      · have hPl : (writesOf d j).length ≤ 4000000000000 := by rw [length_writesOf]; omega
        have HPl := Lib.hid hPl
        obtain ⟨i0, hi, hz0, hz1, hz2⟩ := info_parts infoU8
        have hi0 := Lib.hid (And.intro hi (And.intro hz0 (And.intro hz1 hz2)))
        clear hi hz0 hz1 hz2 hPl
        have HW9 := Lib.hid (writesOf_succ d h40)
        have hpe := place_eq i
        have hplc : (IntKind.u64.wrap i % 4).toNat < four.length := by have := place_writeOf (op, i, xs, ks); rw [length_four]; simpa [writeOf] using this
        obtain ⟨pl, hpl⟩ : ∃ pl, (IntKind.u64.wrap i % 4).toNat = pl := ⟨_, rfl⟩
        rw [hpl] at hpe hplc
        have HPlc := Lib.hid hplc
        have HPe := Lib.hid hpl
        clear hplc hpl
        by_cases hx : xs.length ≤ 128
        · have hwr : IntKind.i64.wrap (128 - (xs.length : Int)) = 128 - (xs.length : Int) := IntWalk.i64_in _ (by omega)
          have hmin : min xs.length 128 = xs.length := Nat.min_eq_left hx
          go_wp2
          obtain ⟨W1, hW1⟩ : ∃ W1, wr.alloc (.cells #[.int .i64 op, .int .i64 i, .slice ab xs.length cb, .slice ak ks.length ck] 91) = W1 := ⟨_, rfl⟩
          have hU1 : Upd Nil wr W1 := by rw [← hW1]; exact (Upd.refl Nil wr).alloc _
          have hB1 : Blk W1 wr.heap.size 91 #[.int .i64 op, .int .i64 i, .slice ab xs.length cb, .slice ak ks.length ck] := by rw [← hW1]; exact Blk.new wr _ _
          have hy1 : W1.cell? ⟨wr.heap.size, 1, none⟩ = some (.int .i64 i) := hB1.cell 1
          have HUW := Lib.hid hU1
          have HBW := Lib.hid hB1
          rw [hW1]
          clear hU1 hB1 hW1
          have HRb := Lib.hid (HRow.out.keep HUW.out.drew)
          go_region_law (first
            | (go_simp; go_at_call 26; refine (bytesClone _ cb HRb.out (by omega)).mono ?_; rintro e w1 ⟨a1, c1, rfl, hown1, hup1⟩
               have hup1 := hup1.ofDrew
               have hown1 : Own (Fr W1 w1) w1 5 1 a1 xs.length c1 (bvs xs) := hown1
               have hy1' : w1.cell? ⟨wr.heap.size, 1, none⟩ = some (.int .i64 i) := hup1.cell hy1 (fun f => f)
               have HO1 := Lib.hid hown1; have HU1 := Lib.hid hup1; clear hown1 hup1)
            | (refine step_append_zeros rfl (.tmp 37) (.tmp 40) 25 3 rfl Try.underlying25 Try.underlying3 hi0.out.1 hi0.out.2.1 hi0.out.2.2.1 hi0.out.2.2.2 rfl HO1.out (m := 128 - xs.length) rfl (by first | omega | (rw [hwr]; omega)) (by omega) ?_
               intro a2 c2 w2 hown2 hup2
               rw [show xs.length + (128 - xs.length) = 128 by omega] at hown2 ⊢
               have hy2' : w2.cell? ⟨wr.heap.size, 1, none⟩ = some (.int .i64 i) := hup2.cell hy1' (fun f => by have := f.1; have := HUW.out.size; have := World.block_lt_of_cell? _ _ hy1; omega)
               have HO2 := Lib.hid hown2; have HU2 := Lib.hid hup2; clear hown2 hup2)
            | (go_simp; go_at_call 39; refine (disk_Write_128 _ ((HR.out.upd HUW.out (fun _ _ f => f)).upd (HU1.out.ofNil.trans HU2.out (fun _ f _ => f)) (fun k hk f => by have := (HF'.out k hk).2; have := f.1; have := HUW.out.size; omega)) HPlc.out HPl.out c2 HO2.out.row (by simp; omega)).mono ?_; rintro e w3 ⟨rfl, F3, hb3, hu3, hF3⟩
               have HB3 := Lib.hid hb3; have HU3 := Lib.hid hu3; have HF3 := Lib.hid hF3; clear hb3 hu3 hF3))
          all_goals go_wp2
          all_goals go_roundg (gk - 1)
          all_goals first
            | (have := HJ.out; omega)
            | (have hz0 := HU'.out.size
               have hz1 := HUW.out.size
               have hz2 := HU1.out.size
               have hz3 := HU2.out.size
               have hz4 := HU3.out.size
               have hw := HWo.out
               try dsimp only at hw
               rw [HPe.out, List.take_of_length_le hx, Nat.min_eq_left hx] at hw
               have hrep := HB3.out
               rw [← hw, ← HW9.out] at hrep
               refine ⟨j + 1, by have := HJ.out; omega, by go_num, F3, hrep, fun k hk => ?_, ?_⟩
               · rcases HF3.out k hk with h | h
                 · have := HF'.out k h
                   exact ⟨this.1, by have := this.2; omega⟩
                 · exact ⟨by have := h.1; omega, h.2⟩
               · refine ((((HU'.out.trans HUW.out (fun _ f _ => f)).trans HU1.out (fun _ f _ => f)).trans HU2.out (fun k hk hlt => ?_))).trans HU3.out (fun k hk hlt => ?_)
                 · have := hk.1
                   omega
                 · have := (HF'.out k hk).1
                   omega)
        · have hx' : 128 < xs.length := by omega
          have hmin : min xs.length 128 = 128 := Nat.min_eq_right (by omega)
          have hcb : 128 ≤ cb := by omega
          have hlI : ¬ ((xs.length : Int) ≤ 128) := by omega
          have hlJ : (128 : Int) ≤ (xs.length : Int) := by omega
          have hlK : ¬ ((xs.length : Int) < 128) := by omega
          have h128 : (xs.take 128).length = 128 := by rw [List.length_take]; omega
          go_wp2
          obtain ⟨W1, hW1⟩ : ∃ W1, wr.alloc (.cells #[.int .i64 op, .int .i64 i, .slice ab xs.length cb, .slice ak ks.length ck] 91) = W1 := ⟨_, rfl⟩
          have hU1 : Upd Nil wr W1 := by rw [← hW1]; exact (Upd.refl Nil wr).alloc _
          have hB1 : Blk W1 wr.heap.size 91 #[.int .i64 op, .int .i64 i, .slice ab xs.length cb, .slice ak ks.length ck] := by rw [← hW1]; exact Blk.new wr _ _
          have hy1 : W1.cell? ⟨wr.heap.size, 1, none⟩ = some (.int .i64 i) := hB1.cell 1
          have HUW := Lib.hid hU1
          have HBW := Lib.hid hB1
          rw [hW1]
          clear hU1 hB1 hW1
          have HRb := Lib.hid (show Row (Old w) W1.drew ab (bvs (xs.take 128)) from by rw [bvs_take]; exact (HRow.out.keep HUW.out.drew).take 128)
          have hwz : IntKind.i64.wrap 0 = 0 := IntWalk.i64_in _ (by omega)
          go_region_law (first
            | (go_simp; go_at_call 26; refine (bytesClone_128 _ cb HRb.out h128).mono ?_; rintro e w1 ⟨a1, c1, rfl, hown1, hup1⟩
               have hup1 := hup1.ofDrew
               have hown1 : Own (Fr W1 w1) w1 5 1 a1 128 c1 (bvs (xs.take 128)) := hown1
               have hy1' : w1.cell? ⟨wr.heap.size, 1, none⟩ = some (.int .i64 i) := hup1.cell hy1 (fun f => f)
               have HO1 := Lib.hid hown1; have HU1 := Lib.hid hup1; clear hown1 hup1)
            | (refine step_append_zeros rfl (.tmp 37) (.tmp 40) 25 3 rfl Try.underlying25 Try.underlying3 hi0.out.1 hi0.out.2.1 hi0.out.2.2.1 hi0.out.2.2.2 rfl HO1.out (m := 0) rfl (by first | rfl | omega | (rw [hwz]; rfl) | simp [hwz]) (by omega) ?_
               intro a2 c2 w2 hown2 hup2
               rw [Nat.add_zero] at hown2 ⊢
               have hy2' : w2.cell? ⟨wr.heap.size, 1, none⟩ = some (.int .i64 i) := hup2.cell hy1' (fun f => by have := f.1; have := HUW.out.size; have := World.block_lt_of_cell? _ _ hy1; omega)
               have HO2 := Lib.hid hown2; have HU2 := Lib.hid hup2; clear hown2 hup2)
            | (go_simp; go_at_call 39; refine (disk_Write_128 _ ((HR.out.upd HUW.out (fun _ _ f => f)).upd (HU1.out.ofNil.trans HU2.out (fun _ f _ => f)) (fun k hk f => by have := (HF'.out k hk).2; have := f.1; have := HUW.out.size; omega)) HPlc.out HPl.out c2 HO2.out.row (by rw [List.length_append, h128]; rfl)).mono ?_; rintro e w3 ⟨rfl, F3, hb3, hu3, hF3⟩
               have HB3 := Lib.hid hb3; have HU3 := Lib.hid hu3; have HF3 := Lib.hid hF3; clear hb3 hu3 hF3))
          all_goals go_wp2
          all_goals go_roundg (gk - 1)
          all_goals first
            | (have := HJ.out; omega)
            | (have hz0 := HU'.out.size
               have hz1 := HUW.out.size
               have hz2 := HU1.out.size
               have hz3 := HU2.out.size
               have hz4 := HU3.out.size
               have hw := HWo.out
               try dsimp only at hw
               rw [HPe.out, hmin, show (128 - 128 : Nat) = 0 from rfl] at hw
               have hrep := HB3.out
               rw [← hw, ← HW9.out] at hrep
               refine ⟨j + 1, by have := HJ.out; omega, by go_num, F3, hrep, fun k hk => ?_, ?_⟩
               · rcases HF3.out k hk with h | h
                 · have := HF'.out k h
                   exact ⟨this.1, by have := this.2; omega⟩
                 · exact ⟨by have := h.1; omega, h.2⟩
               · refine ((((HU'.out.trans HUW.out (fun _ f _ => f)).trans HU1.out (fun _ f _ => f)).trans HU2.out (fun k hk hlt => ?_))).trans HU3.out (fun k hk hlt => ?_)
                 · have := hk.1
                   omega
                 · have := (HF'.out k hk).1
                   omega)
      · have hst := writesOf_stop d (n := j) (by omega)
        have HSt := Lib.hid hst
        clear hst
        go_wp2
        go_roundg (gk - 1)
        case measure => have := HJ.out; omega
        case rel =>
          refine ⟨j + 1, by have := HJ.out; omega, by go_num, F', ?_, fun k hk => ?_, HU'.out.alloc _⟩
          · rw [HSt.out]
            exact HR.out.upd ((Upd.refl Nil wr).alloc _) (fun _ _ f => f)
          · have := HF'.out k hk
            exact ⟨this.1, by have := this.2; simp; omega⟩
    · obtain rfl : j = n := by omega
      go_wp2
      go_ret
      exact ⟨s, F', rfl, HR.out, HF'.out, HU'.out⟩
end Go.Proofs.Ytbaombnnagidcaa
