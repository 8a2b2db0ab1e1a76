/- DiskLives: whatever is done to a disk, it answers and has what the document's disk has; for every number of sectors and every list of calls. -/
import Derived.Test.YtbaombnnagidcaaDoes
import Derived.Test.YtbaombnnagidcaaOpen02
namespace Go.Proofs.Ytbaombnnagidcaa.diskLives
open Go.RowKit Go.Deep Go.WideShapes Go.ChangeShapes Go.ChangeAt

theorem fresh_no (w : World) {n : Int} (hn : n < 1 ∨ 4096 < n) :
    Calls Try.prog 44 #[.int .i64 n] w fun e w' => e = .returned (.tuple #[.pointer none, .pointer none, .bool true]) ∧ w = w' := by
  have H1 := Lib.hid (fun w => disk_New_no w hn)
  have H2 := Lib.hid (fun w => x_New_no w hn)
  clear hn
  go_enter Try.func44, Try.ntmps44
  go_wp2_with (first
    | (go_at_call 43; refine (H1.out _).mono ?_; rintro e w' ⟨rfl, rfl⟩)
    | (go_at_call 61; refine (H2.out _).mono ?_; rintro e w' ⟨rfl, rfl⟩))
  go_ret3
  exact ⟨rfl, rfl⟩

/-- both disks, new -/
def GotPair (w : World) (B : List (List UInt8)) (e : Ending) (w' : World) : Prop :=
  ∃ s1 s2 F1 F2, e = .returned (.tuple #[.pointer (some ⟨s1, 0, none⟩), .pointer (some ⟨s2, 0, none⟩), .bool true]) ∧ Pair w' s1 s2 F1 F2 B [] B [] ∧ (∀ k, F1 k → Fr w w' k) ∧ (∀ k, F2 k → Fr w w' k) ∧ Upd Nil w w'

theorem pair_new {w w1 w2 : World} {s1 s2 : Nat} {F1 F2 : Nat → Prop} {B : List (List UInt8)} (h1 : DiskRep F1 w1 s1 B []) (f1 : ∀ k, F1 k → Fr w w1 k) (u1 : Upd Nil w w1) (h2 : XRep F2 w2 s2 B []) (f2 : ∀ k, F2 k → Fr w1 w2 k) (u2 : Upd Nil w1 w2) :
    Pair w2 s1 s2 F1 F2 B [] B [] ∧ (∀ k, F1 k → Fr w w2 k) ∧ (∀ k, F2 k → Fr w w2 k) ∧ Upd Nil w w2 := by
  have z1 := u1.size
  have z2 := u2.size
  refine ⟨⟨h1.upd u2 (fun _ _ f => f), h2, fun k hk => by have := (f1 k hk).2; omega, fun k hk => (f2 k hk).2, fun k hk h => by have := (f1 k hk).2; have := (f2 k h).1; omega⟩, fun k hk => ⟨(f1 k hk).1, by have := (f1 k hk).2; omega⟩, fun k hk => ⟨by have := (f2 k hk).1; omega, (f2 k hk).2⟩, u1.trans u2 (fun _ f _ => f)⟩

theorem fresh_yes (w : World) {n : Nat} (h1 : 1 ≤ n) (h2 : n ≤ 4096) :
    Calls Try.prog 44 #[.int .i64 n] w (GotPair w (List.replicate n noughts)) := by
  go_enter Try.func44, Try.ntmps44
  go_wp2_with (first
    | (go_at_call 43; refine (disk_New_yes _ h1 h2).mono ?_; rintro e w1 ⟨s1, F1, rfl, g1, g2, g3⟩; have H1 := Lib.hid g1; have H2 := Lib.hid g2; have H3 := Lib.hid g3; clear g1 g2 g3)
    | (go_at_call 61; refine (x_New_yes _ h1 h2).mono ?_; rintro e w2 ⟨s2, F2, rfl, g1, g2, g3⟩; have H4 := Lib.hid g1; have H5 := Lib.hid g2; have H6 := Lib.hid g3; clear g1 g2 g3))
  go_ret3
  exact ⟨s1, s2, F1, F2, rfl, pair_new H1.out H2.out H3.out H4.out H5.out H6.out⟩

theorem fine_new {n : Nat} (h1 : 1 ≤ n) (h2 : n ≤ 4096) : Fine (List.replicate n noughts) [] :=
  ⟨by simpa using h1, by simpa using h2, fun b hb => by rw [List.eq_of_mem_replicate hb, length_noughts], fun _ hp => by cases hp⟩

set_option maxRecDepth 100000 in
set_option maxHeartbeats 4000000 in
theorem walk_yes (w : World) {n : Nat} (h1 : 1 ≤ n) (h2 : n ≤ 4096) {a : Option Addr} {m : Nat} (c : Nat) {d : Nat → DoD} (h : Calls02 w a m d) (hm : m ≤ 2200000000000) :
    Calls Try.prog 10 #[.int .i64 n, .slice a m c] w fun e w' => e = .returned (.bool true) ∧ Upd Nil w w' := by
  have HC := Lib.hid h
  clear h
  go_enter Try.func10, Try.ntmps10
  go_wp2_with (go_at_call 44; refine (fresh_yes _ h1 h2).mono ?_; rintro e w1 ⟨s1, s2, F1, F2, rfl, g1, g2, g3, g4⟩; have H1 := Lib.hid g1; have H2 := Lib.hid g2; have H3 := Lib.hid g3; have H4 := Lib.hid g4; clear g1 g2 g3 g4)
  go_loopg [25] m (fun k i wr => ∃ j : Nat, j + k = m ∧ i = .int .i64 j ∧ ∃ F1 F2 B P, Pair wr s1 s2 F1 F2 B P B P ∧ Fine B P ∧ P.length ≤ j ∧ (∀ k, F1 k → w.heap.size ≤ k) ∧ (∀ k, F2 k → w.heap.size ≤ k) ∧ Upd Nil w wr)
  case atStart => exact ⟨0, by omega, rfl, F1, F2, _, _, H1.out, fine_new h1 h2, Nat.le_refl _, fun k hk => (H2.out k hk).1, fun k hk => (H3.out k hk).1, H4.out⟩
  case round =>
    obtain ⟨j, hjk, rfl, F1, F2, B, P, hp, hf, hl, e1, e2, hup⟩ := hrel
    have hjm : j ≤ m := by omega
    have HJ := Lib.hid hjk
    have HP := Lib.hid hp
    have HF := Lib.hid hf
    have HE1 := Lib.hid e1
    have HE2 := Lib.hid e2
    have HU := Lib.hid hup
    clear hjk hp hf e1 e2 hup
    by_cases hlt : j < m
    · obtain ⟨b, o, ab, cb, ak, ck, rfl, q0, q1, q2, q3, hrow, hnn, hlen, hcap, hkrow, hklen⟩ := HC.out j hlt
      obtain ⟨⟨op, i, xs, ks⟩, hdj⟩ : ∃ q, d j = q := ⟨_, rfl⟩
      rw [hdj] at q0 q1 q2 q3 hrow hlen hcap hkrow hklen
      dsimp only at q0 q1 q2 q3 hrow hlen hcap hkrow hklen
      have r0 := HU.out.cell q0 (fun f => f)
      have r1 := HU.out.cell q1 (fun f => f)
      have r2 := HU.out.cell q2 (fun f => f)
      have r3 := HU.out.cell q3 (fun f => f)
      have HRow := Lib.hid (hrow.keep HU.out)
      have HKr := Lib.hid (hkrow.keep HU.out)
      have HNn := Lib.hid hnn
      have HKl := Lib.hid hklen
      have HLe := Lib.hid hlen
      clear q0 q1 q2 q3 hrow hkrow hnn hdj hcap hklen hlen
      go_wp2_with (first
        | (go_at_call 45; refine (does _ (HP.out.alloc _) HF.out (by omega) op i cb (HRow.out.alloc _) HNn.out HLe.out ck (HKr.out.alloc _) HKl.out (fun k hk f => by have := HE1.out k f; have hk' : k < w.heap.size := hk; omega) (fun k hk f => by have := HE2.out k f; have hk' : k < w.heap.size := hk; omega)).mono ?_; rintro e w3 ⟨rfl, F1', F2', B', P', g1, g2, g3, g4, g5, g6⟩; have G1 := Lib.hid g1; have G2 := Lib.hid g2; have G3 := Lib.hid g3; have G4 := Lib.hid g4; have G5 := Lib.hid g5; have G6 := Lib.hid g6; clear g1 g2 g3 g4 g5 g6)
        | (go_at_call 46; refine (sameDisks _ G1.out.prog G1.out.ref G2.out (by have := G3.out; omega)).mono ?_; rintro e w4 ⟨rfl, g⟩; have G7 := Lib.hid g; clear g))
      go_roundg (gk - 1)
      case measure => have := HJ.out; omega
      case rel =>
        have z0 := HU.out.size
        refine ⟨j + 1, by have := HJ.out; omega, by go_num, F1', F2', B', P', G1.out.keep G7.out, G2.out, by have := G3.out; omega, fun k hk => ?_, fun k hk => ?_, ((HU.out.alloc _).trans G4.out (fun k hk hlt => ?_)).trans G7.out (fun _ f _ => f)⟩
        · rcases G5.out k hk with g | g
          · exact HE1.out k g
          · have := g.1; simp only [World.size_alloc] at this; omega
        · rcases G6.out k hk with g | g
          · exact HE2.out k g
          · have := g.1; simp only [World.size_alloc] at this; omega
        · rcases hk with g | g
          · have := HE1.out k g; omega
          · have := HE2.out k g; omega
    · obtain rfl : j = m := by omega
      go_wp2_with (go_at_call 46; refine (sameDisks _ HP.out.prog HP.out.ref HF.out (by omega)).mono ?_; rintro e w4 ⟨rfl, g⟩; have G7 := Lib.hid g; clear g)
      go_ret
      exact ⟨rfl, HU.out.trans G7.out (fun _ f _ => f)⟩

theorem walk_no (w : World) {n : Int} (hn : n < 1 ∨ 4096 < n) (a : Option Addr) (m c : Nat) :
    Calls Try.prog 10 #[.int .i64 n, .slice a m c] w fun e w' => e = .returned (.bool true) ∧ Upd Nil w w' := by
  have H1 := Lib.hid (fun w => fresh_no w hn)
  clear hn
  go_enter Try.func10, Try.ntmps10
  go_wp2_with (go_at_call 44; refine (H1.out _).mono ?_; rintro e w' ⟨rfl, rfl⟩)
  go_ret
  exact ⟨rfl, Upd.refl _ _⟩
end Go.Proofs.Ytbaombnnagidcaa.diskLives
