/- The net: its memory, and the contracts of its methods. -/
import Derived.Test.YtbaombnnagidcaaImage
namespace Go.Proofs.Ytbaombnnagidcaa
open Go.RowKit

/-- At block s lies a struct of type t whose first field is a slice of slices of bytes: l; the further cells are 'cells'. The row of the slices (R), the texts' own rows (E): all of them blocks of F. -/
def Bag (t : TypeId) (cells : List Value) (F : Nat → Prop) (w : World) (s : Nat) (l : List (List UInt8)) : Prop :=
  ∃ (R E : Nat → Prop) (a : Option Addr) (c : Nat) (vs : List Value), F s ∧ s < w.heap.size ∧ (∀ k, R k → F k ∧ k ≠ s ∧ k < w.heap.size) ∧ (∀ k, E k → F k ∧ k ≠ s ∧ ¬ R k ∧ k < w.heap.size) ∧
    Blk w s t (Value.slice a l.length c :: cells).toArray ∧ Own R w 25 1 a l.length c vs ∧ All2 (Elem E w) vs l

theorem Bag.upd {t : TypeId} {cells : List Value} {F G : Nat → Prop} {w w' : World} {s : Nat} {l : List (List UInt8)} (h : Bag t cells F w s l) (u : Upd G w w') (hd : ∀ k, F k → ¬ G k) : Bag t cells F w' s l := by
  obtain ⟨R, E, a, c, vs, h1, h2, h3, h4, h5, h6, h7⟩ := h
  refine ⟨R, E, a, c, vs, h1, Nat.lt_of_lt_of_le h2 u.size, fun k hk => ?_, fun k hk => ?_, h5.upd u (hd s h1), h6.upd u (fun k hk => hd k (h3 k hk).1), h7.mono (fun v x h => h.upd u (fun k hk => hd k (h4 k hk).1))⟩
  · obtain ⟨e1, e2, e3⟩ := h3 k hk
    exact ⟨e1, e2, Nat.lt_of_lt_of_le e3 u.size⟩
  · obtain ⟨e1, e2, e3, e4⟩ := h4 k hk
    exact ⟨e1, e2, e3, Nat.lt_of_lt_of_le e4 u.size⟩
theorem Bag.mono {t : TypeId} {cells : List Value} {F F' : Nat → Prop} {w : World} {s : Nat} {l : List (List UInt8)} (h : Bag t cells F w s l) (hF : ∀ k, F k → F' k) : Bag t cells F' w s l := by
  obtain ⟨R, E, a, c, vs, h1, h2, h3, h4, h5⟩ := h
  exact ⟨R, E, a, c, vs, hF _ h1, h2, fun k hk => ⟨hF _ (h3 k hk).1, (h3 k hk).2⟩, fun k hk => ⟨hF _ (h4 k hk).1, (h4 k hk).2⟩, h5⟩

def BagGot (t : TypeId) (cells : List Value) (F : Nat → Prop) (w : World) (s : Nat) (v : Value) (l' : List (List UInt8)) (e : Ending) (w' : World) : Prop :=
  e = .returned v ∧ ∃ F', Bag t cells F' w' s l' ∧ Upd F w w' ∧ ∀ k, F' k → F k ∨ Fr w w' k

abbrev NetRep := Bag 33 [.bool true]
abbrev NetGot := BagGot 33 [.bool true]

/-- What the last store of an append of a fresh message leaves. -/
theorem snoc_end {F R E : Nat → Prop} {w w1 w2 : World} {s : Nat} {t : TypeId} {cells : List Value} {l : List (List UInt8)} {xs : List UInt8} {a a1 a2 : Option Addr} {c c1 c2 : Nat} {vs : List Value} {o : Obj}
    (hFs : F s) (hs : s < w.heap.size) (hR : ∀ k, R k → F k ∧ k ≠ s ∧ k < w.heap.size) (hE : ∀ k, E k → F k ∧ k ≠ s ∧ ¬ R k ∧ k < w.heap.size)
    (hb : Blk w s t (Value.slice a l.length c :: cells).toArray) (hall : All2 (Elem E w) vs l)
    (hown1 : Own (Fr w w1) w1 5 1 a1 xs.length c1 (bvs xs)) (hup1 : Upd Nil w w1)
    (hown2 : Own (fun k => R k ∨ Fr (w1.alloc o) w2 k) w2 25 1 a2 (l.length + 1) c2 (vs ++ [.slice a1 xs.length c1])) (hup2 : Upd R (w1.alloc o) w2) :
    ∃ (F' R' E' : Nat → Prop) (vs' : List Value), (F' s ∧ s < (w2.setCell ⟨s, 0, none⟩ (.slice a2 (l.length + 1) c2)).heap.size ∧ (∀ k, R' k → F' k ∧ k ≠ s ∧ k < (w2.setCell ⟨s, 0, none⟩ (.slice a2 (l.length + 1) c2)).heap.size) ∧
      (∀ k, E' k → F' k ∧ k ≠ s ∧ ¬ R' k ∧ k < (w2.setCell ⟨s, 0, none⟩ (.slice a2 (l.length + 1) c2)).heap.size) ∧
      Blk (w2.setCell ⟨s, 0, none⟩ (.slice a2 (l.length + 1) c2)) s t (Value.slice a2 (l.length + 1) c2 :: cells).toArray ∧
      Own R' (w2.setCell ⟨s, 0, none⟩ (.slice a2 (l.length + 1) c2)) 25 1 a2 (l.length + 1) c2 vs' ∧ All2 (Elem E' (w2.setCell ⟨s, 0, none⟩ (.slice a2 (l.length + 1) c2))) vs' (l ++ [xs])) ∧
      Upd F w (w2.setCell ⟨s, 0, none⟩ (.slice a2 (l.length + 1) c2)) ∧ ∀ k, F' k → F k ∨ Fr w (w2.setCell ⟨s, 0, none⟩ (.slice a2 (l.length + 1) c2)) k := by
  have hz1 := hup1.size
  have hz2 := hup2.size
  simp only [World.size_alloc] at hz2
  have hsz : (w2.setCell ⟨s, 0, none⟩ (.slice a2 (l.length + 1) c2)).heap.size = w2.heap.size := by simp
  have hRs : ¬ R s := fun h => (hR s h).2.1 rfl
  have b1 : Blk w1 s t _ := hb.upd hup1 (fun f => f)
  have b2 : Blk w2 s t _ := (b1.alloc o).upd hup2 hRs
  have b3 := b2.set 0 (.slice a2 (l.length + 1) c2)
  have one : Upd (One s) w2 (w2.setCell ⟨s, 0, none⟩ (.slice a2 (l.length + 1) c2)) := (Upd.refl (One s) w2).setCell (p := ⟨s, 0, none⟩) (.inl rfl) _
  refine ⟨fun k => F k ∨ Fr w w2 k, fun k => R k ∨ Fr (w1.alloc o) w2 k, fun k => E k ∨ Fr w w1 k, _, ⟨.inl hFs, by omega, ?_, ?_, ?_, hown2.upd one ?_, ?_⟩, ?_, ?_⟩
  · rintro k (h | ⟨h1, h2⟩)
    · exact ⟨.inl (hR k h).1, (hR k h).2.1, by have := (hR k h).2.2; omega⟩
    · simp only [World.size_alloc] at h1
      exact ⟨.inr ⟨by omega, h2⟩, by omega, by omega⟩
  · rintro k (h | ⟨h1, h2⟩)
    · obtain ⟨e1, e2, e3, e4⟩ := hE k h
      refine ⟨.inl e1, e2, ?_, by omega⟩
      rintro (r | ⟨r, _⟩)
      · exact e3 r
      · simp only [World.size_alloc] at r
        omega
    · refine ⟨.inr ⟨h1, by omega⟩, by omega, ?_, by omega⟩
      rintro (r | ⟨r, _⟩)
      · have := (hR k r).2.2
        omega
      · simp only [World.size_alloc] at r
        omega
  · simpa using b3
  · rintro k (h | ⟨h1, h2⟩) rfl
    · exact hRs h
    · simp only [World.size_alloc] at h1
      omega
  · have hold : All2 (Elem (fun k => E k ∨ Fr w w1 k) w2) vs l := hall.mono (fun v x h => by
      refine (((h.upd hup1 (fun k _ f => f)).keep ((Upd.refl Nil w1).alloc o)).upd hup2 ?_).mono (fun k h => Or.inl h)
      exact fun k he hr => (hE k he).2.2.1 hr)
    have hnew : Elem (fun k => E k ∨ Fr w w1 k) w2 (.slice a1 xs.length c1) xs := by
      refine (((hown1.elem).keep ((Upd.refl Nil w1).alloc o)).upd hup2 ?_).mono (fun k h => Or.inr h)
      rintro k ⟨h1, _⟩ hr
      have := (hR k hr).2.2
      omega
    refine (hold.snoc hnew).mono (fun v x h => h.upd one ?_)
    rintro k (h | ⟨h1, h2⟩) rfl
    · exact (hE _ h).2.1 rfl
    · omega
  · refine (((hup1.ofNil (G := F)).alloc o).trans (hup2.mono (fun k h => (hR k h).1)) (fun k h _ => h)).setCell (.inl hFs) _
  · rintro k (h | ⟨h1, h2⟩)
    · exact .inl h
    · exact .inr ⟨h1, by omega⟩

/-- What the last store leaves where the row was written in place. -/
theorem same_end {F R E : Nat → Prop} {w w1 : World} {s : Nat} {t : TypeId} {cells : List Value} {l' : List (List UInt8)} {a : Option Addr} {n' c : Nat} {v0 : Value} {vs' : List Value}
    (hFs : F s) (hs : s < w.heap.size) (hR : ∀ k, R k → F k ∧ k ≠ s ∧ k < w.heap.size) (hE : ∀ k, E k → F k ∧ k ≠ s ∧ ¬ R k ∧ k < w.heap.size)
    (hb : Blk w s t (v0 :: cells).toArray) (hall : All2 (Elem E w) vs' l') (hn : l'.length = n')
    (hown1 : Own R w1 25 1 a n' c vs') (hup1 : Upd R w w1) :
    (F s ∧ s < (w1.setCell ⟨s, 0, none⟩ (.slice a n' c)).heap.size ∧ (∀ k, R k → F k ∧ k ≠ s ∧ k < (w1.setCell ⟨s, 0, none⟩ (.slice a n' c)).heap.size) ∧
      (∀ k, E k → F k ∧ k ≠ s ∧ ¬ R k ∧ k < (w1.setCell ⟨s, 0, none⟩ (.slice a n' c)).heap.size) ∧
      Blk (w1.setCell ⟨s, 0, none⟩ (.slice a n' c)) s t (Value.slice a l'.length c :: cells).toArray ∧
      Own R (w1.setCell ⟨s, 0, none⟩ (.slice a n' c)) 25 1 a l'.length c vs' ∧ All2 (Elem E (w1.setCell ⟨s, 0, none⟩ (.slice a n' c))) vs' l') ∧
      Upd F w (w1.setCell ⟨s, 0, none⟩ (.slice a n' c)) := by
  subst hn
  have hz1 := hup1.size
  have hsz : (w1.setCell ⟨s, 0, none⟩ (.slice a l'.length c)).heap.size = w1.heap.size := by simp
  have hRs : ¬ R s := fun h => (hR s h).2.1 rfl
  have b1 : Blk w1 s t _ := hb.upd hup1 hRs
  have b3 := b1.set 0 (.slice a l'.length c)
  have one : Upd (One s) w1 (w1.setCell ⟨s, 0, none⟩ (.slice a l'.length c)) := (Upd.refl (One s) w1).setCell (p := ⟨s, 0, none⟩) (.inl rfl) _
  refine ⟨⟨hFs, by omega, fun k hk => ?_, fun k hk => ?_, by simpa using b3, hown1.upd one ?_, hall.mono (fun v x h => (h.upd hup1 ?_).upd one ?_)⟩, ?_⟩
  · obtain ⟨e1, e2, e3⟩ := hR k hk
    exact ⟨e1, e2, by omega⟩
  · obtain ⟨e1, e2, e3, e4⟩ := hE k hk
    exact ⟨e1, e2, e3, by omega⟩
  · rintro k hk rfl
    exact hRs hk
  · exact (hup1.mono (fun k h => (hR k h).1)).setCell (p := ⟨s, 0, none⟩) (.inl hFs) _
  · exact fun k he hr => (hE k he).2.2.1 hr
  · rintro k he rfl
    exact (hE _ he).2.1 rfl

set_option maxHeartbeats 1000000 in
theorem net_send {F G : Nat → Prop} (w : World) {s : Nat} {l : List (List UInt8)} (h : NetRep F w s l) {a : Option Addr} (c : Nat) {xs : List UInt8} (hr : Row G w a (bvs xs)) (h1 : xs.length ≤ 4096) (h2 : l.length < 64) :
    Calls Try.prog 13 #[.pointer (some ⟨s, 0, none⟩), .slice a xs.length c] w (NetGot F w s (.int .i64 0) (l ++ [xs])) := by
  obtain ⟨R, E, al, cl, vs, hFs, hs, hR, hE, hb, hown, hall⟩ := h
  have hc0 : w.cell? ⟨s, 0, none⟩ = some (.slice al l.length cl) := hb.cell 0
  have hc1 : w.cell? ⟨s, 1, none⟩ = some (.bool true) := hb.cell 1
  obtain ⟨i0, hi, hz0, hz1, hz2⟩ := info_parts infoBytes
  have hi0 := Lib.hid (And.intro hi (And.intro hz0 (And.intro hz1 hz2)))
  clear hi hz0 hz1 hz2
  have HC0 := Lib.hid hc0
  have HB := Lib.hid hb
  have HO := Lib.hid hown
  have HA := Lib.hid hall
  have HR := Lib.hid hr
  have HRs := Lib.hid hR
  have HEs := Lib.hid hE
  clear hb hown hall hr hR hE
  go_enter Try.func13, Try.ntmps13
  go_wp2
  go_region_law (first
    | (go_simp; go_at_call 26; refine (bytesClone _ c HR.out.drew (by omega)).mono ?_; rintro e w1 ⟨a1, c1, rfl, hown1, hup1⟩
       have HO1 := Lib.hid hown1; have HU1 := Lib.hid hup1; clear hown1 hup1
       have hd0 := HU1.out.cell (a := ⟨s, 0, none⟩) HC0.out (fun f => f); have hlt1 : s < w1.heap.size := World.block_lt_of_cell? w1 _ hd0)
    | (refine step_append_Own rfl (.tmp 30) (.tmp 33) 22 rfl Try.underlying22 hi0.out.1 hi0.out.2.1 hi0.out.2.2.1 hi0.out.2.2.2 rfl (by decide) rfl ((HO.out.drew.keep HU1.out).alloc _) rfl (one_row w1 _ _) (by simp) (by simp [Value.oneCell']) (by intro h; cases h) (by simp only [maxLen]; omega) (by omega) ?_
       intro a2 c2 w2 hown2 hup2 hne2
       have hb2 := ((HB.out.drew.upd HU1.out (fun f => f)).alloc (.cells #[.slice a1 xs.length c1] 25)).upd hup2 (fun f => (HRs.out _ f).2.1 rfl)
       have HO2 := Lib.hid hown2; have HU2 := Lib.hid hup2; clear hown2 hup2 hne2
       have he0 := hb2.cell 0; have hf0 := hb2.frozen 0
       clear hb2))
  all_goals go_wp2
  all_goals go_ret
  all_goals
    obtain ⟨F', R', E', vs', hrep, hup, hF⟩ := snoc_end (t := 33) (cells := [.bool true]) hFs hs HRs.out HEs.out HB.out HA.out (show Own (Fr w w1) w1 _ 1 _ _ _ _ from HO1.out) HU1.out.ofDrew HO2.out HU2.out
    obtain ⟨r1, r2, r3, r4, r5, r6, r7⟩ := hrep
    refine ⟨rfl, F', ⟨R', E', a2, c2, vs', r1, r2, r3, r4, ?_, ?_, r7⟩, hup, hF⟩
    · simpa using r5
    · simpa using r6

/-! ### look, Look, Drop, Twice, Take, List -/
def NoPlace (l : List (List UInt8)) (i : Int) : Prop := i < 0 ∨ (l.length : Int) ≤ i

theorem net_look_yes {F : Nat → Prop} (w : World) {s : Nat} {l : List (List UInt8)} (h : NetRep F w s l) {i : Nat} (hi : i < l.length) :
    Calls Try.prog 49 #[.pointer (some ⟨s, 0, none⟩), .int .i64 i] w fun e w' => e = .returned (.int .i64 0) ∧ w = w' := by
  obtain ⟨R, E, al, cl, vs, hFs, hs, hR, hE, hb, hown, hall⟩ := h
  have hc0 : w.cell? ⟨s, 0, none⟩ = some (.slice al l.length cl) := hb.cell 0
  have hc1 : w.cell? ⟨s, 1, none⟩ = some (.bool true) := hb.cell 1
  clear hb hown hall hR hE
  go_enter Try.func49, Try.ntmps49
  go_wp2
  go_ret
  exact ⟨rfl, rfl⟩

theorem net_look_no {F : Nat → Prop} (w : World) {s : Nat} {l : List (List UInt8)} (h : NetRep F w s l) {i : Int} (hi : NoPlace l i) :
    Calls Try.prog 49 #[.pointer (some ⟨s, 0, none⟩), .int .i64 i] w fun e w' => e = .returned (.int .i64 190) ∧ w = w' := by
  obtain ⟨R, E, al, cl, vs, hFs, hs, hR, hE, hb, hown, hall⟩ := h
  have hc0 : w.cell? ⟨s, 0, none⟩ = some (.slice al l.length cl) := hb.cell 0
  have hc1 : w.cell? ⟨s, 1, none⟩ = some (.bool true) := hb.cell 1
  clear hb hown hall hR hE
  rcases hi with hi | hi
  · go_enter Try.func49, Try.ntmps49
    go_wp2
    go_ret
    exact ⟨rfl, rfl⟩
  · by_cases h0 : i < 0
    · clear hi
      go_enter Try.func49, Try.ntmps49
      go_wp2
      go_ret
      exact ⟨rfl, rfl⟩
    · obtain ⟨m, rfl⟩ : ∃ m : Nat, i = m := ⟨i.toNat, by omega⟩
      clear h0
      have hi' : l.length ≤ m := by omega
      clear hi
      go_enter Try.func49, Try.ntmps49
      go_wp2
      go_ret
      exact ⟨rfl, rfl⟩

/-- a message that is told: a copy of one's own -/
def ToldBytes (w : World) (xs : List UInt8) (e : Ending) (w' : World) : Prop := ∃ a c, e = .returned (.tuple #[.slice a xs.length c, .int .i64 0]) ∧ Own (Fr w w') w' 5 1 a xs.length c (bvs xs) ∧ Upd Nil w w'

theorem net_Look_yes {F : Nat → Prop} (w : World) {s : Nat} {l : List (List UInt8)} (h : NetRep F w s l) {i : Nat} (hi : i < l.length) (hx : (l[i]).length ≤ 140737488355328) :
    Calls Try.prog 16 #[.pointer (some ⟨s, 0, none⟩), .int .i64 i] w (ToldBytes w l[i]) := by
  have HLk := Lib.hid (net_look_yes w h hi)
  obtain ⟨R, E, al, cl, vs, hFs, hs, hR, hE, hb, hown, hall⟩ := h
  have hc0 : w.cell? ⟨s, 0, none⟩ = some (.slice al l.length cl) := hb.cell 0
  obtain ⟨v, hv, a, c, rfl, hr, hac⟩ := hall.get hi
  obtain ⟨b, o, rfl, _, hcell⟩ := rowAt hown.row hv
  have HR := Lib.hid hr
  clear hb hown hall hR hE hv hac hr
  go_enter Try.func16, Try.ntmps16
  go_wp2_with (first
    | (go_at_call 49; refine HLk.out.mono ?_; rintro e w' ⟨rfl, rfl⟩)
    | (go_at_call 26; refine (bytesClone _ c HR.out hx).mono ?_; rintro e w1 ⟨a1, c1, rfl, hown1, hup1⟩; have HO1 := Lib.hid hown1; have HU1 := Lib.hid hup1; clear hown1 hup1))
  go_ret2
  exact ⟨a1, c1, rfl, HO1.out, HU1.out⟩

theorem net_Look_no {F : Nat → Prop} (w : World) {s : Nat} {l : List (List UInt8)} (h : NetRep F w s l) {i : Int} (hi : NoPlace l i) :
    Calls Try.prog 16 #[.pointer (some ⟨s, 0, none⟩), .int .i64 i] w fun e w' => e = .returned (.tuple #[.slice none 0 0, .int .i64 190]) ∧ w = w' := by
  have HLk := Lib.hid (net_look_no w h hi)
  clear h hi
  go_enter Try.func16, Try.ntmps16
  go_wp2_with (go_at_call 49; refine HLk.out.mono ?_; rintro e w' ⟨rfl, rfl⟩)
  go_ret2
  exact ⟨rfl, rfl⟩

theorem net_Drop_no {F : Nat → Prop} (w : World) {s : Nat} {l : List (List UInt8)} (h : NetRep F w s l) {i : Int} (hi : NoPlace l i) :
    Calls Try.prog 17 #[.pointer (some ⟨s, 0, none⟩), .int .i64 i] w fun e w' => e = .returned (.int .i64 190) ∧ w = w' := by
  have HLk := Lib.hid (net_look_no w h hi)
  clear h hi
  go_enter Try.func17, Try.ntmps17
  go_wp2_with (go_at_call 49; refine HLk.out.mono ?_; rintro e w' ⟨rfl, rfl⟩)
  go_ret
  exact ⟨rfl, rfl⟩

theorem all2_erase {α : Type} {R : Value → α → Prop} : ∀ {vs : List Value} {xs : List α} (i : Nat), All2 R vs xs → All2 R (vs.eraseIdx i) (xs.eraseIdx i)
  | [], [], _, _ => trivial
  | _ :: _, _ :: _, 0, h => h.2
  | _ :: _, _ :: _, i + 1, h => ⟨h.1, all2_erase i h.2⟩
  | [], _ :: _, _, h => h.elim
  | _ :: _, [], _, h => h.elim

theorem net_Drop_yes {F : Nat → Prop} (w : World) {s : Nat} {l : List (List UInt8)} (h : NetRep F w s l) {i : Nat} (hi : i < l.length) (hl : l.length ≤ 1000000) :
    Calls Try.prog 17 #[.pointer (some ⟨s, 0, none⟩), .int .i64 i] w (NetGot F w s (.int .i64 0) (l.eraseIdx i)) := by
  have HLk := Lib.hid (net_look_yes w h hi)
  obtain ⟨R, E, al, cl, vs, hFs, hs, hR, hE, hb, hown, hall⟩ := h
  have hRs : ¬ R s := fun f => (hR s f).2.1 rfl
  obtain ⟨n, hn⟩ : ∃ n, l.length = n + 1 := ⟨l.length - 1, by omega⟩
  have hle : (l.eraseIdx i).length = n := by rw [List.length_eraseIdx_of_lt hi]; omega
  rw [hn] at hb hown
  have hc0 : w.cell? ⟨s, 0, none⟩ = some (.slice al (n + 1) cl) := hb.cell 0
  have hdel := Lib.hid (delete1 w hown (all2_oneCell hall) (i := i) (by omega) (by omega))
  have HB := Lib.hid hb
  have HO := Lib.hid hown
  have HA := Lib.hid hall
  have HRs := Lib.hid hR
  have HEs := Lib.hid hE
  have HN := Lib.hid hn
  have HLe := Lib.hid hle
  clear hb hown hall hR hE hn hle
  go_enter Try.func17, Try.ntmps17
  go_wp2_with (first
    | (go_at_call 49; refine HLk.out.mono ?_; rintro e w' ⟨rfl, rfl⟩)
    | (go_at_call 50; refine hdel.out.mono ?_; rintro e w1 ⟨rfl, hown1, hup1⟩
       have hb1 := HB.out.upd hup1 hRs
       have HO1 := Lib.hid hown1; have HU1 := Lib.hid hup1; clear hown1 hup1
       have hd0 := hb1.cell 0; have hf0 := hb1.frozen 0
       have HB1 := Lib.hid hb1; clear hb1))
  go_ret
  obtain ⟨⟨r1, r2, r3, r4, r5, r6, r7⟩, hup⟩ := same_end (t := 33) (cells := [.bool true]) (n' := n) (l' := l.eraseIdx i) hFs hs HRs.out HEs.out HB.out (all2_erase i HA.out) HLe.out HO1.out HU1.out
  exact ⟨rfl, _, ⟨R, E, al, cl, _, r1, r2, r3, r4, r5, r6, r7⟩, hup, fun k hk => .inl hk⟩
end Go.Proofs.Ytbaombnnagidcaa
