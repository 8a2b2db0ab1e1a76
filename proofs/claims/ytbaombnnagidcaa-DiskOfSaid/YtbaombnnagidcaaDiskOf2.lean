/- DiskOf: the walk. -/
import Derived.Test.YtbaombnnagidcaaDiskOf
namespace Go.Proofs.Ytbaombnnagidcaa.diskOf
open Go.RowKit Go.Deep Go.WideShapes Go.ChangeShapes Go.ChangeAt
open diskLives (GotPair pair_new)

/-- an image of which a disk is made -/
def Sound (B : List (List UInt8)) : Prop := 1 ≤ B.length ∧ B.length ≤ 4096 ∧ AllSize B

theorem disks_yes {F E : Nat → Prop} (w : World) {A : Option Addr} {c0 : Nat} {vs : List Value} {B : List (List UInt8)} (hown : Row F w A vs) (hall : All2 (Elem E w) vs B) (hs : Sound B) :
    Calls Try.prog 47 #[.slice A B.length c0] w (GotPair w B) := by
  obtain ⟨s1, s2, s3⟩ := hs
  have HR := Lib.hid hown
  have HA := Lib.hid hall
  have HS := Lib.hid s3
  clear hown hall s3
  go_enter Try.func47, Try.ntmps47
  go_wp2_with (first
    | (go_at_call 71; refine (plainImage _ HR.out HA.out (by omega) (fun x hx => by rw [HS.out x hx]; decide)).mono ?_; rintro e w1 ⟨R1, E1, a1, c1, v1, rfl, g1, g2, g3, g4⟩; have H1 := Lib.hid g1; have H4 := Lib.hid g4; clear g1 g2 g3 g4)
    | (go_at_call 70; refine (disk_Of_yes _ H1.out.own.row H1.out.all s1 s2 HS.out).mono ?_; rintro e w2 ⟨t1, F1, rfl, g1, g2, g3⟩; have J1 := Lib.hid g1; have J2 := Lib.hid g2; have J3 := Lib.hid g3; clear g1 g2 g3)
    | (go_at_call 72; refine (x_Of _ ((HR.out.keep H4.out).keep J3.out) (HA.out.mono (fun v x h => (h.keep H4.out).keep J3.out)) s1 s2).mono ?_; rintro e w3 hx; obtain ⟨t2, F2, rfl, g1, g2, g3⟩ := hx.1 HS.out; have J4 := Lib.hid g1; have J5 := Lib.hid g2; have J6 := Lib.hid g3; clear g1 g2 g3 hx))
  go_ret3
  obtain ⟨p1, p2, p3, p4⟩ := pair_new J1.out (fun k hk => ⟨by have := (J2.out k hk).1; have := H4.out.size; omega, (J2.out k hk).2⟩) (H4.out.trans J3.out (fun _ f _ => f)) J4.out J5.out J6.out
  exact ⟨t1, t2, F1, F2, rfl, p1, p2, p3, p4⟩

/-- none of both -/
def NoPair (w : World) (e : Ending) (w' : World) : Prop := e = .returned (.tuple #[.pointer none, .pointer none, .bool true]) ∧ Upd Nil w w'
theorem disks_no {F E : Nat → Prop} (w : World) {A : Option Addr} {c0 : Nat} {vs : List Value} {B : List (List UInt8)} (hown : Row F w A vs) (hall : All2 (Elem E w) vs B) (hl : B.length * 24 ≤ 140737488355328) (hx : ∀ x ∈ B, x.length ≤ 140737488355328) (hs : ¬ Sound B) :
    Calls Try.prog 47 #[.slice A B.length c0] w (NoPair w) := by
  have HR := Lib.hid hown
  have HA := Lib.hid hall
  have HX := Lib.hid hx
  clear hown hall hx
  by_cases hn : B.length < 1 ∨ 4096 < B.length
  · have HN := Lib.hid hn
    clear hn hs
    go_enter Try.func47, Try.ntmps47
    go_wp2_with (first
      | (go_at_call 71; refine (plainImage _ HR.out HA.out hl HX.out).mono ?_; rintro e w1 ⟨R1, E1, a1, c1, v1, rfl, g1, g2, g3, g4⟩; have H4 := Lib.hid g4; clear g1 g2 g3 g4)
      | (go_at_call 70; refine (disk_Of_no _ HN.out).mono ?_; rintro e w' ⟨rfl, rfl⟩)
      | (go_at_call 72; refine (x_Of_no _ HN.out).mono ?_; rintro e w' ⟨rfl, rfl⟩))
    go_ret3
    exact ⟨rfl, H4.out⟩
  · have h1 : 1 ≤ B.length := by omega
    have h2 : B.length ≤ 4096 := by omega
    have hn : ¬ AllSize B := fun h => hs ⟨h1, h2, h⟩
    have HN := Lib.hid hn
    clear hn hs
    go_enter Try.func47, Try.ntmps47
    go_wp2_with (first
      | (go_at_call 71; refine (plainImage _ HR.out HA.out hl HX.out).mono ?_; rintro e w1 ⟨R1, E1, a1, c1, v1, rfl, g1, g2, g3, g4⟩; have H1 := Lib.hid g1; have H4 := Lib.hid g4; clear g1 g2 g3 g4)
      | (go_at_call 70; refine (disk_Of_other _ H1.out.own.row H1.out.all h1 h2 HN.out).mono ?_; rintro e w' ⟨rfl, rfl⟩)
      | (go_at_call 72; refine (x_Of _ (HR.out.keep H4.out) (HA.out.mono (fun v x h => h.keep H4.out)) h1 h2).mono ?_; rintro e w3 hx; obtain ⟨rfl, g⟩ := hx.2 HN.out; have H5 := Lib.hid g; clear hx g))
    go_ret3
    exact ⟨rfl, H4.out.trans H5.out (fun _ f _ => f)⟩

/-- the copies, a pair of their own -/
theorem pair_copy {wr w3 w4 : World} {s3 s4 : Nat} {F3 F4 : Nat → Prop} {B : List (List UInt8)} {P : List Snt} (h3 : DiskRep F3 w3 s3 B P) (f3 : ∀ k, F3 k → Fr wr w3 k) (h4 : XRep F4 w4 s4 B P) (f4 : ∀ k, F4 k → Fr w3 w4 k) (u4 : Upd Nil w3 w4) :
    Pair w4 s3 s4 F3 F4 B P B P :=
  ⟨h3.upd u4 (fun _ _ f => f), h4, fun k hk => by have := (f3 k hk).2; have := u4.size; omega, fun k hk => (f4 k hk).2, fun k hk h => by have := (f3 k hk).2; have := (f4 k h).1; omega⟩

set_option maxRecDepth 100000 in
set_option maxHeartbeats 4000000 in
theorem walk_yes {F E : Nat → Prop} (w : World) {A : Option Addr} {c0 : Nat} {vs : List Value} {B0 : List (List UInt8)} (hown : Row F w A vs) (hall : All2 (Elem E w) vs B0) (hs : Sound B0) {a : Option Addr} {m : Nat} (c : Nat) {d : Nat → DoD} (h : Calls02 w a m d) (hm : m ≤ 2200000000000) :
    Calls Try.prog 11 #[.slice A B0.length c0, .slice a m c] w fun e w' => e = .returned (.bool true) ∧ Upd Nil w w' := by
  have HC := Lib.hid h
  have HD := Lib.hid (disks_yes (c0 := c0) w hown hall hs)
  have HS := Lib.hid hs
  clear h hown hall hs
  go_enter Try.func11, Try.ntmps11
  go_wp2_with (go_at_call 47; refine HD.out.mono ?_; rintro e w1 ⟨s1, s2, F1, F2, rfl, g1, g2, g3, g4⟩; have H1 := Lib.hid g1; have H2 := Lib.hid g2; have H3 := Lib.hid g3; have H4 := Lib.hid g4; clear g1 g2 g3 g4)
  go_loopg [27] m (fun k i wr => ∃ j : Nat, j + k = m ∧ i = .int .i64 j ∧ ∃ F1 F2 B P, Pair wr s1 s2 F1 F2 B P B P ∧ Fine B P ∧ P.length ≤ j ∧ (∀ k, F1 k → w.heap.size ≤ k) ∧ (∀ k, F2 k → w.heap.size ≤ k) ∧ Upd Nil w wr)
  case atStart => exact ⟨0, by omega, rfl, F1, F2, _, _, H1.out, ⟨HS.out.1, HS.out.2.1, HS.out.2.2, fun _ hp => by cases hp⟩, Nat.le_refl _, fun k hk => (H2.out k hk).1, fun k hk => (H3.out k hk).1, H4.out⟩
  case round =>
    obtain ⟨j, hjk, rfl, F1, F2, B, P, hp, hf, hl, e1, e2, hup⟩ := hrel
    have hjm : j ≤ m := by omega
    have HJ := Lib.hid hjk
    have HP := Lib.hid hp
    have HF := Lib.hid hf
    have HE1 := Lib.hid e1
    have HE2 := Lib.hid e2
    have HU := Lib.hid hup
    clear hjk hp hf e1 e2 hup
    by_cases hlt : j < m
    · obtain ⟨b, o, ab, cb, ak, ck, rfl, q0, q1, q2, q3, hrow, hnn, hlen, hcap, hkrow, hklen⟩ := HC.out j hlt
      obtain ⟨⟨op, i, xs, ks⟩, hdj⟩ : ∃ q, d j = q := ⟨_, rfl⟩
      rw [hdj] at q0 q1 q2 q3 hrow hlen hcap hkrow hklen
      dsimp only at q0 q1 q2 q3 hrow hlen hcap hkrow hklen
      have r0 := HU.out.cell q0 (fun f => f)
      have r1 := HU.out.cell q1 (fun f => f)
      have r2 := HU.out.cell q2 (fun f => f)
      have r3 := HU.out.cell q3 (fun f => f)
      have HRow := Lib.hid (hrow.keep HU.out)
      have HKr := Lib.hid (hkrow.keep HU.out)
      have HNn := Lib.hid hnn
      have HKl := Lib.hid hklen
      have HLe := Lib.hid hlen
      have hb0 := Blk.new wr 91 #[.int .i64 op, .int .i64 i, .slice ab xs.length cb, .slice ak ks.length ck]
      have hu0 : Upd Nil wr (wr.alloc (.cells #[.int .i64 op, .int .i64 i, .slice ab xs.length cb, .slice ak ks.length ck] 91)) := (Upd.refl Nil wr).alloc _
      have HB0 := Lib.hid hb0
      have HU0 := Lib.hid hu0
      have tok1 : True := trivial
      clear q0 q1 q2 q3 hrow hkrow hnn hdj hcap hklen hlen hb0 hu0
      go_wp2_with (first
        | (go_at_call 42; refine (disk_Copy _ (HP.out.keep HU0.out).prog HF.out (by omega)).mono ?_; rintro e w3 ⟨s3, F3, rfl, g1, g2, g3⟩; have C1 := Lib.hid g1; have C2 := Lib.hid g2; have C3 := Lib.hid g3; clear g1 g2 g3)
        | (go_at_call 48; refine (x_Copy _ ((HP.out.keep HU0.out).keep C3.out).ref HF.out (by omega)).mono ?_; rintro e w4 ⟨s4, F4, rfl, g1, g2, g3⟩
           have HCp := Lib.hid (pair_copy C1.out C2.out g1 g2 g3)
           have C4 := Lib.hid g2; have C5 := Lib.hid g3; clear g1 g2 g3)
        | (go_at_call 46; refine (sameDisks _ D1.out.prog D1.out.ref D2.out (by have := D3.out; omega)).mono ?_; rintro e w9 ⟨rfl, g⟩; have U9 := Lib.hid g; clear g)
        | (go_at_call 46; refine (sameDisks _ G1.out.prog G1.out.ref G2.out (by have := G3.out; omega)).mono ?_; rintro e w7 ⟨rfl, g⟩; have U7 := Lib.hid g; have y0 := g.cell x0 (fun f => f); have y1 := g.cell x1 (fun f => f); have y2 := g.cell x2 (fun f => f); have y3 := g.cell x3 (fun f => f); clear g)
        | (go_at_call 46; refine (sameDisks _ HCp.out.prog HCp.out.ref HF.out (by omega)).mono ?_; rintro e w5 ⟨rfl, g⟩
           have U5 := Lib.hid ((C3.out.trans C5.out (fun _ f _ => f)).trans g (fun _ f _ => f)); have G5 := Lib.hid g
           have hb5 := HB0.out.upd U5.out (fun f => f); have z0 := hb5.cell 0; have z1 := hb5.cell 1; have z2 := hb5.cell 2; have z3 := hb5.cell 3; have HB5 := Lib.hid hb5; clear g hb5)
        | (go_at_call 45; have _t := tok1; refine (does _ ((HP.out.keep HU0.out).keep U5.out) HF.out (by omega) op i cb ((HRow.out.keep HU0.out).keep U5.out) HNn.out HLe.out ck ((HKr.out.keep HU0.out).keep U5.out) HKl.out (fun k hk f => by have := HE1.out k f; have hk' : k < w.heap.size := hk; omega) (fun k hk f => by have := HE2.out k f; have hk' : k < w.heap.size := hk; omega)).mono ?_; rintro e w6 ⟨rfl, F1', F2', B', P', g1, g2, g3, g4, g5, g6⟩
           have hb6 := HB5.out.upd g4 (fun f => by
             rcases f with f | f
             · have := HP.out.in1 _ f; omega
             · have := HP.out.in2 _ f; omega)
           have x0 := hb6.cell 0; have x1 := hb6.cell 1; have x2 := hb6.cell 2; have x3 := hb6.cell 3
           have G1 := Lib.hid g1; have G2 := Lib.hid g2; have G3 := Lib.hid g3; have G4 := Lib.hid g4; have G6 := Lib.hid g5; have G7 := Lib.hid g6; clear g1 g2 g3 g4 g5 g6 hb6 tok1))
      have u57 : Upd (fun k => F1 k ∨ F2 k) w5 w7 := G4.out.trans U7.out (fun _ f _ => f.elim)
      have f3 : ∀ k, F3 k → ¬ (F1 k ∨ F2 k) := fun k hk f => by
        have := (C2.out k hk).1; simp only [World.size_alloc] at this
        rcases f with f | f
        · have := HP.out.in1 k f; omega
        · have := HP.out.in2 k f; omega
      have f4 : ∀ k, F4 k → ¬ (F1 k ∨ F2 k) := fun k hk f => by
        have h1 := (C4.out k hk).1; have h2 := C3.out.size; simp only [World.size_alloc] at h1 h2
        rcases f with f | f
        · have := HP.out.in1 k f; omega
        · have := HP.out.in2 k f; omega
      have hp7 := (HCp.out.keep G5.out).far u57 f3 f4
      have old : ∀ k, Old w k → ¬ (F1 k ∨ F2 k) := fun k hk f => by
        have hk' : k < w.heap.size := hk
        rcases f with f | f
        · have := HE1.out k f; omega
        · have := HE2.out k f; omega
      have rb7 := ((HRow.out.keep HU0.out).keep U5.out).upd u57 old
      have rk7 := ((HKr.out.keep HU0.out).keep U5.out).upd u57 old
      have o3 : ∀ k, Old w k → ¬ F3 k := fun k hk f => by
        have hk' : k < w.heap.size := hk; have h1 := (C2.out k f).1; have := HU.out.size; simp only [World.size_alloc] at h1; omega
      have o4 : ∀ k, Old w k → ¬ F4 k := fun k hk f => by
        have hk' : k < w.heap.size := hk; have h1 := (C4.out k f).1; have h2 := C3.out.size; have := HU.out.size; simp only [World.size_alloc] at h1 h2; omega
      refine (does _ hp7 HF.out (by omega) op i cb rb7 HNn.out HLe.out ck rk7 HKl.out o3 o4).mono ?_
      have HU57 := Lib.hid u57
      have HF3 := Lib.hid f3
      have HF4 := Lib.hid f4
      clear u57 f3 f4 hp7 old rb7 rk7 o3 o4
      rintro e w8 ⟨rfl, F3', F4', B2, P2, g1, g2, g3, g4, g5, g6⟩
      have D1 := Lib.hid g1
      have D2 := Lib.hid g2
      have D3 := Lib.hid g3
      have D4 := Lib.hid g4
      clear g1 g2 g3 g4 g5 g6
      go_wp2_with (go_at_call 46; refine (sameDisks _ D1.out.prog D1.out.ref D2.out (by have := D3.out; omega)).mono ?_; rintro e w9 ⟨rfl, g⟩; have U9 := Lib.hid g; clear g)
      go_roundg (gk - 1)
      case measure => have := HJ.out; omega
      case rel =>
        have z0 := HU.out.size
        have z1 := HU0.out.size
        have z2 := U5.out.size
        have z3 := C3.out.size
        have z4 := C5.out.size
        have z5 := G5.out.size
        have a1 : ∀ k, F1' k → ¬ (F3 k ∨ F4 k) := fun k hk f => by
          rcases G6.out k hk with g | g
          · rcases f with f | f
            · exact HF3.out k f (.inl g)
            · exact HF4.out k f (.inl g)
          · have := g.1
            rcases f with f | f
            · have := (C2.out k f).2; omega
            · have := (C4.out k f).2; omega
        have a2 : ∀ k, F2' k → ¬ (F3 k ∨ F4 k) := fun k hk f => by
          rcases G7.out k hk with g | g
          · rcases f with f | f
            · exact HF3.out k f (.inr g)
            · exact HF4.out k f (.inr g)
          · have := g.1
            rcases f with f | f
            · have := (C2.out k f).2; omega
            · have := (C4.out k f).2; omega
        refine ⟨j + 1, by have := HJ.out; omega, by go_num, F1', F2', B', P', ((G1.out.keep U7.out).far D4.out a1 a2).keep U9.out, G2.out, by have := G3.out; omega, fun k hk => ?_, fun k hk => ?_, (((((HU.out.trans HU0.out (fun _ f _ => f)).trans U5.out (fun _ f _ => f)).trans HU57.out (fun k f hk => ?_)).trans D4.out (fun k f hk => ?_)).trans U9.out (fun _ f _ => f))⟩
        · rcases G6.out k hk with g | g
          · exact HE1.out k g
          · have := g.1; omega
        · rcases G7.out k hk with g | g
          · exact HE2.out k g
          · have := g.1; omega
        · rcases f with f | f
          · have := HE1.out k f; omega
          · have := HE2.out k f; omega
        · simp only [World.size_alloc] at z1 z2 z3
          rcases f with f | f
          · have h1 := (C2.out k f).1; simp only [World.size_alloc] at h1; omega
          · have h1 := (C4.out k f).1; omega
    · obtain rfl : j = m := by omega
      go_wp2_with (go_at_call 46; refine (sameDisks _ HP.out.prog HP.out.ref HF.out (by omega)).mono ?_; rintro e w4 ⟨rfl, g⟩; have G7 := Lib.hid g; clear g)
      go_ret
      exact ⟨rfl, HU.out.trans G7.out (fun _ f _ => f)⟩

theorem walk_no {F E : Nat → Prop} (w : World) {A : Option Addr} {c0 : Nat} {vs : List Value} {B : List (List UInt8)} (hown : Row F w A vs) (hall : All2 (Elem E w) vs B) (hl : B.length * 24 ≤ 140737488355328) (hx : ∀ x ∈ B, x.length ≤ 140737488355328) (hs : ¬ Sound B) (a : Option Addr) (m c : Nat) :
    Calls Try.prog 11 #[.slice A B.length c0, .slice a m c] w fun e w' => e = .returned (.bool true) ∧ Upd Nil w w' := by
  have H1 := Lib.hid (disks_no (c0 := c0) w hown hall hl hx hs)
  clear hown hall hx hs
  go_enter Try.func11, Try.ntmps11
  go_wp2_with (go_at_call 47; refine H1.out.mono ?_; rintro e w1 ⟨rfl, g⟩; have HG := Lib.hid g; clear g)
  go_ret
  exact ⟨rfl, HG.out⟩
end Go.Proofs.Ytbaombnnagidcaa.diskOf
