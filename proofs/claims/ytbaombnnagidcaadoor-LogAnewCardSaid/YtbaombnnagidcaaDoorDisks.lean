/- Both disks of one image. -/
import Derived.Test.YtbaombnnagidcaaDoorDiskOf
namespace Go.Proofs.YtbaombnnagidcaaDoor.diskOf
open Go.RowKit Go.Deep Go.WideShapes Go.ChangeShapes Go.ChangeAt

/-- both disks, new -/
def GotPair (w : World) (B : List (List UInt8)) (e : Ending) (w' : World) : Prop :=
  ∃ s1 s2 F1 F2, e = .returned (.tuple #[.pointer (some ⟨s1, 0, none⟩), .pointer (some ⟨s2, 0, none⟩), .bool true]) ∧ Pair w' s1 s2 F1 F2 B [] B [] ∧ (∀ k, F1 k → Fr w w' k) ∧ (∀ k, F2 k → Fr w w' k) ∧ Upd Nil w w'

theorem pair_new {w w1 w2 : World} {s1 s2 : Nat} {F1 F2 : Nat → Prop} {B : List (List UInt8)} (h1 : DiskRep F1 w1 s1 B []) (f1 : ∀ k, F1 k → Fr w w1 k) (u1 : Upd Nil w w1) (h2 : XRep F2 w2 s2 B []) (f2 : ∀ k, F2 k → Fr w1 w2 k) (u2 : Upd Nil w1 w2) :
    Pair w2 s1 s2 F1 F2 B [] B [] ∧ (∀ k, F1 k → Fr w w2 k) ∧ (∀ k, F2 k → Fr w w2 k) ∧ Upd Nil w w2 := by
  have z1 := u1.size
  have z2 := u2.size
  refine ⟨⟨h1.upd u2 (fun _ _ f => f), h2, fun k hk => by have := (f1 k hk).2; omega, fun k hk => (f2 k hk).2, fun k hk h => by have := (f1 k hk).2; have := (f2 k h).1; omega⟩, fun k hk => ⟨(f1 k hk).1, by have := (f1 k hk).2; omega⟩, fun k hk => ⟨by have := (f2 k hk).1; omega, (f2 k hk).2⟩, u1.trans u2 (fun _ f _ => f)⟩

def Sound (B : List (List UInt8)) : Prop := 1 ≤ B.length ∧ B.length ≤ 4096 ∧ AllSize B

theorem disks_yes {F E : Nat → Prop} (w : World) {A : Option Addr} {c0 : Nat} {vs : List Value} {B : List (List UInt8)} (hown : Row F w A vs) (hall : All2 (Elem E w) vs B) (hs : Sound B) :
    Calls Tryd.prog 49 #[.slice A B.length c0] w (GotPair w B) := by
  obtain ⟨s1, s2, s3⟩ := hs
  have HR := Lib.hid hown
  have HA := Lib.hid hall
  have HS := Lib.hid s3
  clear hown hall s3
  go_enter Tryd.func49, Tryd.ntmps49
  go_wp2_with (first
    | (go_at_call 80; refine (plainImage _ HR.out HA.out (by omega) (fun x hx => by rw [HS.out x hx]; decide)).mono ?_; rintro e w1 ⟨R1, E1, a1, c1, v1, rfl, g1, g2, g3, g4⟩; have H1 := Lib.hid g1; have H4 := Lib.hid g4; clear g1 g2 g3 g4)
    | (go_at_call 79; refine (disk_Of_yes _ H1.out.own.row H1.out.all s1 s2 HS.out).mono ?_; rintro e w2 ⟨t1, F1, rfl, g1, g2, g3⟩; have J1 := Lib.hid g1; have J2 := Lib.hid g2; have J3 := Lib.hid g3; clear g1 g2 g3)
    | (go_at_call 82; refine (x_Of _ ((HR.out.keep H4.out).keep J3.out) (HA.out.mono (fun v x h => (h.keep H4.out).keep J3.out)) s1 s2).mono ?_; rintro e w3 hx; obtain ⟨t2, F2, rfl, g1, g2, g3⟩ := hx.1 HS.out; have J4 := Lib.hid g1; have J5 := Lib.hid g2; have J6 := Lib.hid g3; clear g1 g2 g3 hx))
  go_ret3
  obtain ⟨p1, p2, p3, p4⟩ := pair_new J1.out (fun k hk => ⟨by have := (J2.out k hk).1; have := H4.out.size; omega, (J2.out k hk).2⟩) (H4.out.trans J3.out (fun _ f _ => f)) J4.out J5.out J6.out
  exact ⟨t1, t2, F1, F2, rfl, p1, p2, p3, p4⟩

/-- none of both -/
def NoPair (w : World) (e : Ending) (w' : World) : Prop := e = .returned (.tuple #[.pointer none, .pointer none, .bool true]) ∧ Upd Nil w w'
theorem disks_no {F E : Nat → Prop} (w : World) {A : Option Addr} {c0 : Nat} {vs : List Value} {B : List (List UInt8)} (hown : Row F w A vs) (hall : All2 (Elem E w) vs B) (hl : B.length * 24 ≤ 140737488355328) (hx : ∀ x ∈ B, x.length ≤ 140737488355328) (hs : ¬ Sound B) :
    Calls Tryd.prog 49 #[.slice A B.length c0] w (NoPair w) := by
  have HR := Lib.hid hown
  have HA := Lib.hid hall
  have HX := Lib.hid hx
  clear hown hall hx
  by_cases hn : B.length < 1 ∨ 4096 < B.length
  · have HN := Lib.hid hn
    clear hn hs
    go_enter Tryd.func49, Tryd.ntmps49
    go_wp2_with (first
      | (go_at_call 80; refine (plainImage _ HR.out HA.out hl HX.out).mono ?_; rintro e w1 ⟨R1, E1, a1, c1, v1, rfl, g1, g2, g3, g4⟩; have H4 := Lib.hid g4; clear g1 g2 g3 g4)
      | (go_at_call 79; refine (disk_Of_no _ HN.out).mono ?_; rintro e w' ⟨rfl, rfl⟩)
      | (go_at_call 82; refine (x_Of_no _ HN.out).mono ?_; rintro e w' ⟨rfl, rfl⟩))
    go_ret3
    exact ⟨rfl, H4.out⟩
  · have h1 : 1 ≤ B.length := by omega
    have h2 : B.length ≤ 4096 := by omega
    have hn : ¬ AllSize B := fun h => hs ⟨h1, h2, h⟩
    have HN := Lib.hid hn
    clear hn hs
    go_enter Tryd.func49, Tryd.ntmps49
    go_wp2_with (first
      | (go_at_call 80; refine (plainImage _ HR.out HA.out hl HX.out).mono ?_; rintro e w1 ⟨R1, E1, a1, c1, v1, rfl, g1, g2, g3, g4⟩; have H1 := Lib.hid g1; have H4 := Lib.hid g4; clear g1 g2 g3 g4)
      | (go_at_call 79; refine (disk_Of_other _ H1.out.own.row H1.out.all h1 h2 HN.out).mono ?_; rintro e w' ⟨rfl, rfl⟩)
      | (go_at_call 82; refine (x_Of _ (HR.out.keep H4.out) (HA.out.mono (fun v x h => h.keep H4.out)) h1 h2).mono ?_; rintro e w3 hx; obtain ⟨rfl, g⟩ := hx.2 HN.out; have H5 := Lib.hid g; clear hx g))
    go_ret3
    exact ⟨rfl, H4.out.trans H5.out (fun _ f _ => f)⟩

/-- the copies, a pair of their own -/
theorem pair_copy {wr w3 w4 : World} {s3 s4 : Nat} {F3 F4 : Nat → Prop} {B : List (List UInt8)} {P : List Snt} (h3 : DiskRep F3 w3 s3 B P) (f3 : ∀ k, F3 k → Fr wr w3 k) (h4 : XRep F4 w4 s4 B P) (f4 : ∀ k, F4 k → Fr w3 w4 k) (u4 : Upd Nil w3 w4) :
    Pair w4 s3 s4 F3 F4 B P B P :=
  ⟨h3.upd u4 (fun _ _ f => f), h4, fun k hk => by have := (f3 k hk).2; have := u4.size; omega, fun k hk => (f4 k hk).2, fun k hk h => by have := (f3 k hk).2; have := (f4 k h).1; omega⟩


end Go.Proofs.YtbaombnnagidcaaDoor.diskOf
