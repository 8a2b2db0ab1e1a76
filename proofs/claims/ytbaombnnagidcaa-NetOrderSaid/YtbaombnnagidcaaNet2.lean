/- The net, more: what Send refuses, Twice, Take, List, New. -/
import Derived.Test.YtbaombnnagidcaaNet
namespace Go.Proofs.Ytbaombnnagidcaa
open Go.RowKit

theorem Bag.inHeap {t : TypeId} {cells : List Value} {F : Nat → Prop} {w : World} {s : Nat} {l : List (List UInt8)} (h : Bag t cells F w s l) : Bag t cells (fun k => F k ∧ k < w.heap.size) w s l := by
  obtain ⟨R, E, a, c, vs, h1, h2, h3, h4, h5⟩ := h
  exact ⟨R, E, a, c, vs, ⟨h1, h2⟩, h2, fun k hk => ⟨⟨(h3 k hk).1, (h3 k hk).2.2⟩, (h3 k hk).2⟩, fun k hk => ⟨⟨(h4 k hk).1, (h4 k hk).2.2.2⟩, (h4 k hk).2⟩, h5⟩

theorem net_send_long {F : Nat → Prop} (w : World) {s : Nat} {l : List (List UInt8)} (h : NetRep F w s l) (a : Option Addr) (n c : Nat) (h1 : 4096 < n) :
    Calls Try.prog 13 #[.pointer (some ⟨s, 0, none⟩), .slice a n c] w fun e w' => e = .returned (.int .i64 12) ∧ w = w' := by
  obtain ⟨R, E, al, cl, vs, hFs, hs, hR, hE, hb, hown, hall⟩ := h
  have hc0 : w.cell? ⟨s, 0, none⟩ = some (.slice al l.length cl) := hb.cell 0
  have hc1 : w.cell? ⟨s, 1, none⟩ = some (.bool true) := hb.cell 1
  clear hb hown hall hR hE
  go_enter Try.func13, Try.ntmps13
  go_wp2
  go_ret
  exact ⟨rfl, rfl⟩

theorem net_send_full {F : Nat → Prop} (w : World) {s : Nat} {l : List (List UInt8)} (h : NetRep F w s l) (a : Option Addr) (n c : Nat) (h1 : n ≤ 4096) (h2 : 64 ≤ l.length) :
    Calls Try.prog 13 #[.pointer (some ⟨s, 0, none⟩), .slice a n c] w fun e w' => e = .returned (.int .i64 4) ∧ w = w' := by
  obtain ⟨R, E, al, cl, vs, hFs, hs, hR, hE, hb, hown, hall⟩ := h
  have hc0 : w.cell? ⟨s, 0, none⟩ = some (.slice al l.length cl) := hb.cell 0
  have hc1 : w.cell? ⟨s, 1, none⟩ = some (.bool true) := hb.cell 1
  clear hb hown hall hR hE
  go_enter Try.func13, Try.ntmps13
  go_wp2
  go_ret
  exact ⟨rfl, rfl⟩

theorem net_Take_no {F : Nat → Prop} (w : World) {s : Nat} {l : List (List UInt8)} (h : NetRep F w s l) {i : Int} (hi : NoPlace l i) :
    Calls Try.prog 14 #[.pointer (some ⟨s, 0, none⟩), .int .i64 i] w fun e w' => e = .returned (.tuple #[.slice none 0 0, .int .i64 190]) ∧ w = w' := by
  have HLk := Lib.hid (net_Look_no w h hi)
  clear h hi
  go_enter Try.func14, Try.ntmps14
  go_wp2_with (go_at_call 16; refine HLk.out.mono ?_; rintro e w' ⟨rfl, rfl⟩)
  go_ret2
  exact ⟨rfl, rfl⟩

theorem net_Twice_no {F : Nat → Prop} (w : World) {s : Nat} {l : List (List UInt8)} (h : NetRep F w s l) {i : Int} (hi : NoPlace l i) :
    Calls Try.prog 18 #[.pointer (some ⟨s, 0, none⟩), .int .i64 i] w fun e w' => e = .returned (.int .i64 190) ∧ w = w' := by
  have HLk := Lib.hid (net_Look_no w h hi)
  clear h hi
  go_enter Try.func18, Try.ntmps18
  go_wp2_with (go_at_call 16; refine HLk.out.mono ?_; rintro e w' ⟨rfl, rfl⟩)
  go_ret
  exact ⟨rfl, rfl⟩

/-- a message that is delivered -/
def TookBytes (t : TypeId) (cells : List Value) (F : Nat → Prop) (w : World) (s : Nat) (xs : List UInt8) (l' : List (List UInt8)) (e : Ending) (w' : World) : Prop :=
  ∃ a c, e = .returned (.tuple #[.slice a xs.length c, .int .i64 0]) ∧ Own (Fr w w') w' 5 1 a xs.length c (bvs xs) ∧ ∃ F', Bag t cells F' w' s l' ∧ Upd F w w' ∧ ∀ k, F' k → F k ∨ Fr w w' k

theorem net_Take_yes {F : Nat → Prop} (w : World) {s : Nat} {l : List (List UInt8)} (h : NetRep F w s l) {i : Nat} (hi : i < l.length) (hl : l.length ≤ 1000000) (hx : (l[i]).length ≤ 140737488355328) :
    Calls Try.prog 14 #[.pointer (some ⟨s, 0, none⟩), .int .i64 i] w (TookBytes 33 [.bool true] F w s l[i] (l.eraseIdx i)) := by
  have HLk := Lib.hid (net_Look_yes w h hi hx)
  have HB := Lib.hid h.inHeap
  clear h
  go_enter Try.func14, Try.ntmps14
  go_wp2_with (first
    | (go_at_call 16; refine HLk.out.mono ?_; rintro e w1 ⟨a1, c1, rfl, hown1, hup1⟩; have HO1 := Lib.hid hown1; have HU1 := Lib.hid hup1; clear hown1 hup1)
    | (go_at_call 17; refine (net_Drop_yes _ (HB.out.upd HU1.out (fun _ _ f => f)) hi hl).mono ?_; rintro e w2 ⟨rfl, F', hb2, hu2, hF2⟩; have HB2 := Lib.hid hb2; have HU2 := Lib.hid hu2; have HF2 := Lib.hid hF2; clear hb2 hu2 hF2))
  go_ret2
  have hz1 := HU1.out.size
  have hz2 := HU2.out.size
  refine ⟨a1, c1, rfl, (HO1.out.upd HU2.out (fun k hk h => by have := hk.1; have := h.2; omega)).mono (fun k hk => ⟨hk.1, by have := hk.2; omega⟩), F', HB2.out, (HU1.out.ofNil (G := F)).trans HU2.out (fun k hk _ => hk.1), fun k hk => ?_⟩
  rcases HF2.out k hk with h | h
  · exact .inl h.1
  · exact .inr ⟨by have := h.1; omega, h.2⟩

theorem net_Twice_yes {F : Nat → Prop} (w : World) {s : Nat} {l : List (List UInt8)} (h : NetRep F w s l) {i : Nat} (hi : i < l.length) (hl : l.length < 64) (hx : (l[i]).length ≤ 4096) :
    Calls Try.prog 18 #[.pointer (some ⟨s, 0, none⟩), .int .i64 i] w (NetGot F w s (.int .i64 0) (l ++ [l[i]])) := by
  have HLk := Lib.hid (net_Look_yes w h hi (by omega))
  have HB := Lib.hid h
  clear h
  go_enter Try.func18, Try.ntmps18
  go_wp2_with (first
    | (go_at_call 16; refine HLk.out.mono ?_; rintro e w1 ⟨a1, c1, rfl, hown1, hup1⟩; have HO1 := Lib.hid hown1; have HU1 := Lib.hid hup1; clear hown1 hup1)
    | (go_at_call 13; refine (net_send _ (HB.out.upd HU1.out (fun _ _ f => f)) c1 HO1.out.row hx hl).mono ?_; rintro e w2 ⟨rfl, F', hb2, hu2, hF2⟩; have HB2 := Lib.hid hb2; have HU2 := Lib.hid hu2; have HF2 := Lib.hid hF2; clear hb2 hu2 hF2))
  go_ret
  have hz1 := HU1.out.size
  refine ⟨rfl, F', HB2.out, (HU1.out.ofNil (G := F)).trans HU2.out (fun k hk _ => hk), fun k hk => ?_⟩
  rcases HF2.out k hk with h | h
  · exact .inl h
  · exact .inr ⟨by have := h.1; omega, h.2⟩

theorem net_Twice_full {F : Nat → Prop} (w : World) {s : Nat} {l : List (List UInt8)} (h : NetRep F w s l) {i : Nat} (hi : i < l.length) (hl : 64 ≤ l.length) (hx : (l[i]).length ≤ 4096) :
    Calls Try.prog 18 #[.pointer (some ⟨s, 0, none⟩), .int .i64 i] w fun e w' => e = .returned (.int .i64 4) ∧ Upd Nil w w' := by
  have HLk := Lib.hid (net_Look_yes w h hi (by omega))
  have HB := Lib.hid h
  clear h
  go_enter Try.func18, Try.ntmps18
  go_wp2_with (first
    | (go_at_call 16; refine HLk.out.mono ?_; rintro e w1 ⟨a1, c1, rfl, hown1, hup1⟩; have HO1 := Lib.hid hown1; have HU1 := Lib.hid hup1; clear hown1 hup1)
    | (go_at_call 13; refine (net_send_full _ (HB.out.upd HU1.out (fun _ _ f => f)) _ _ _ hx hl).mono ?_; rintro e w2 ⟨rfl, rfl⟩))
  go_ret
  exact ⟨rfl, HU1.out⟩

/-! ### List, New -/
/-- Slices of bytes in a row of one's own. -/
structure Rows (R E : Nat → Prop) (w : World) (a : Option Addr) (n c : Nat) (vs : List Value) (l : List (List UInt8)) : Prop where
  own : Own R w 25 1 a n c vs
  all : All2 (Elem E w) vs l
  len : l.length = n
  inR : ∀ k, R k → k < w.heap.size
  inE : ∀ k, E k → k < w.heap.size
  apart : ∀ k, E k → ¬ R k

theorem Rows.snoc {R E : Nat → Prop} {w w1 w2 : World} {a a1 a2 : Option Addr} {n c c1 c2 : Nat} {vs : List Value} {l : List (List UInt8)} {xs : List UInt8} {o : Obj} (h : Rows R E w a n c vs l)
    (hown1 : Own (Fr w w1) w1 5 1 a1 xs.length c1 (bvs xs)) (hup1 : Upd Nil w w1)
    (hown2 : Own (fun k => R k ∨ Fr (w1.alloc o) w2 k) w2 25 1 a2 (n + 1) c2 (vs ++ [.slice a1 xs.length c1])) (hup2 : Upd R (w1.alloc o) w2) :
    Rows (fun k => R k ∨ Fr (w1.alloc o) w2 k) (fun k => E k ∨ Fr w w1 k) w2 a2 (n + 1) c2 (vs ++ [.slice a1 xs.length c1]) (l ++ [xs]) := by
  have hz1 := hup1.size
  have hz2 := hup2.size
  simp only [World.size_alloc] at hz2
  refine ⟨hown2, ?_, by simp [h.len], ?_, ?_, ?_⟩
  · have hold : All2 (Elem (fun k => E k ∨ Fr w w1 k) w2) vs l := h.all.mono (fun v x hh => by
      refine (((hh.upd hup1 (fun k _ f => f)).keep ((Upd.refl Nil w1).alloc o)).upd hup2 ?_).mono (fun k h => Or.inl h)
      exact fun k he hr => h.apart k he hr)
    refine hold.snoc ?_
    refine (((hown1.elem).keep ((Upd.refl Nil w1).alloc o)).upd hup2 ?_).mono (fun k h => Or.inr h)
    rintro k ⟨h1, _⟩ hr
    have := h.inR k hr
    omega
  · rintro k (hk | ⟨_, hk⟩)
    · have := h.inR k hk
      omega
    · exact hk
  · rintro k (hk | ⟨_, hk⟩)
    · have := h.inE k hk
      omega
    · omega
  · rintro k (hk | ⟨h1, h2⟩) (hr | ⟨h3, h4⟩)
    · exact h.apart k hk hr
    · have := h.inE k hk
      simp only [World.size_alloc] at h3
      omega
    · have := h.inR k hr
      omega
    · simp only [World.size_alloc] at h3
      omega

/-- slices of bytes that are handed back, all of them new -/
def GotRows (w : World) (l : List (List UInt8)) (e : Ending) (w' : World) : Prop :=
  ∃ R E a c vs, e = .returned (.slice a l.length c) ∧ Rows R E w' a l.length c vs l ∧ (∀ k, R k → Fr w w' k) ∧ (∀ k, E k → Fr w w' k) ∧ Upd Nil w w'

theorem fr_grow {w wr w1 w2 : World} {o : Obj} {R : Nat → Prop} (h0 : Upd Nil w wr) (h1 : Upd Nil wr w1) (h2 : Upd R (w1.alloc o) w2) : (∀ k, Fr w wr k → Fr w w2 k) ∧ (∀ k, Fr wr w1 k → Fr w w2 k) ∧ (∀ k, Fr (w1.alloc o) w2 k → Fr w w2 k) := by
  have z0 := h0.size
  have z1 := h1.size
  have z2 := h2.size
  simp only [World.size_alloc] at z2
  refine ⟨fun k hk => ⟨hk.1, by have := hk.2; omega⟩, fun k hk => ⟨by have := hk.1; omega, by have := hk.2; omega⟩, fun k hk => ⟨by have := hk.1; simp only [World.size_alloc] at this; omega, hk.2⟩⟩

set_option maxHeartbeats 1000000 in
theorem net_List {F : Nat → Prop} (w : World) {s : Nat} {l : List (List UInt8)} (h : NetRep F w s l) (hl : l.length ≤ 1000000) (hx : ∀ x ∈ l, x.length ≤ 140737488355328) :
    Calls Try.prog 19 #[.pointer (some ⟨s, 0, none⟩)] w (GotRows w l) := by
  obtain ⟨R, E, al, cl, vs, hFs, hs, hR, hE, hb, hown, hall⟩ := h
  have hc0 : w.cell? ⟨s, 0, none⟩ = some (.slice al l.length cl) := hb.cell 0
  obtain ⟨i0, hi, hz0, hz1, hz2⟩ := info_parts infoBytes
  have hi0 := Lib.hid (And.intro hi (And.intro hz0 (And.intro hz1 hz2)))
  clear hi hz0 hz1 hz2
  have HO := Lib.hid hown
  have HA := Lib.hid hall
  have HX := Lib.hid hx
  clear hb hown hall hR hE hx
  go_enter Try.func19, Try.ntmps19
  go_wp2
  go_loopg [3, 13] l.length (fun k v i wr => ∃ j : Nat, j + k = l.length ∧ i = .int .i64 j ∧ ∃ (R' E' : Nat → Prop) (a : Option Addr) (c : Nat) (us : List Value), v = .slice a j c ∧ Rows R' E' wr a j c us (l.take j) ∧ (∀ q, R' q → Fr w wr q) ∧ (∀ q, E' q → Fr w wr q) ∧ Upd Nil w wr)
  case atStart => exact ⟨0, by omega, rfl, Nil, Nil, none, 0, [], rfl, ⟨Own.none_ _ _ _ _, trivial, rfl, fun _ f => f.elim, fun _ f => f.elim, fun _ f => f.elim⟩, fun _ f => f.elim, fun _ f => f.elim, Upd.refl _ _⟩
  case round =>
    obtain ⟨j, hjk, rfl, R', E', a, c, us, rfl, hrows, hR', hE', hup⟩ := hrel
    have hjn : j ≤ l.length := by omega
    have HJ := Lib.hid hjk
    have HRw := Lib.hid hrows
    have HR' := Lib.hid hR'
    have HE' := Lib.hid hE'
    have HU := Lib.hid hup
    clear hjk hrows hR' hE' hup
    by_cases hlt : j < l.length
    · obtain ⟨v, hv, ax, cx, rfl, rx, _⟩ := HA.out.get hlt
      obtain ⟨b, o, rfl, _, hcell0⟩ := rowAt HO.out.row hv
      have hcell := HU.out.cell hcell0 (fun f => f)
      have HRx := Lib.hid (rx.keep HU.out)
      clear hv hcell0 rx
      go_wp2_with (first
        | (go_at_call 26; refine (bytesClone _ cx HRx.out (HX.out _ (List.getElem_mem hlt))).mono ?_; rintro e w1 ⟨a1, c1, rfl, hown1, hup1⟩; have HO1 := Lib.hid hown1; have HU1 := Lib.hid hup1; clear hown1 hup1)
        | (at_builtin; refine wpList_append_Own rfl _ _ _ rfl Try.underlying22 hi0.out.1 hi0.out.2.1 hi0.out.2.2.1 hi0.out.2.2.2 rfl (by decide) rfl ((HRw.out.own.keep HU1.out).alloc _) rfl (one_row w1 _ _) (by simp) (by simp [Value.oneCell']) (by intro h; cases h) (by simp only [maxLen]; omega) (by omega) ?_
           intro a2 c2 w2 hown2 hup2 hne2; have HO2 := Lib.hid hown2; have HU2 := Lib.hid hup2; clear hown2 hup2 hne2))
      go_roundg (gk - 1)
      case measure => have := HJ.out; omega
      case rel =>
        obtain ⟨f0, f1, f2⟩ := fr_grow HU.out HU1.out HU2.out
        have hrows' := HRw.out.snoc HO1.out HU1.out HO2.out HU2.out
        rw [← List.take_succ_eq_append_getElem hlt] at hrows'
        refine ⟨j + 1, by have := HJ.out; omega, by go_num, _, _, a2, c2, _, rfl, hrows', ?_, ?_, ?_⟩
        · rintro q (h | h)
          · exact f0 q (HR'.out q h)
          · exact f2 q h
        · rintro q (h | h)
          · exact f0 q (HE'.out q h)
          · exact f1 q h
        · exact ((HU.out.trans HU1.out (fun _ f _ => f)).alloc _).trans HU2.out (fun k hk hlt => by have := (HR'.out k hk).1; omega)
    · obtain rfl : j = l.length := by omega
      go_wp2
      go_ret
      have hr := HRw.out
      rw [List.take_length] at hr
      exact ⟨R', E', a, c, us, rfl, hr, HR'.out, HE'.out, HU.out⟩
end Go.Proofs.Ytbaombnnagidcaa
