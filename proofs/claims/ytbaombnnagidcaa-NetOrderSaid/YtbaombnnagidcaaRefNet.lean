/- The reference's net: the contracts of its methods. -/
import Derived.Test.YtbaombnnagidcaaNet2
import Derived.IntWalk
namespace Go.Proofs.Ytbaombnnagidcaa
open Go.RowKit

abbrev RefRep := Bag 56 []
abbrev RefGot := BagGot 56 []

theorem ref_send_long (w : World) (s : Nat) (a : Option Addr) (n c : Nat) (h1 : 4096 < n) :
    Calls Try.prog 27 #[.pointer (some ⟨s, 0, none⟩), .slice a n c] w fun e w' => e = .returned (.int .i64 12) ∧ w = w' := by
  go_enter Try.func27, Try.ntmps27
  go_wp2
  go_ret
  exact ⟨rfl, rfl⟩

theorem ref_send_full {F : Nat → Prop} (w : World) {s : Nat} {l : List (List UInt8)} (h : RefRep F w s l) (a : Option Addr) (n c : Nat) (h1 : n ≤ 4096) (h2 : 64 ≤ l.length) :
    Calls Try.prog 27 #[.pointer (some ⟨s, 0, none⟩), .slice a n c] w fun e w' => e = .returned (.int .i64 4) ∧ w = w' := by
  obtain ⟨R, E, al, cl, vs, hFs, hs, hR, hE, hb, hown, hall⟩ := h
  have hc0 : w.cell? ⟨s, 0, none⟩ = some (.slice al l.length cl) := hb.cell 0
  clear hb hown hall hR hE
  go_enter Try.func27, Try.ntmps27
  go_wp2
  go_ret
  exact ⟨rfl, rfl⟩

set_option maxHeartbeats 1000000 in
theorem ref_send {F G : Nat → Prop} (w : World) {s : Nat} {l : List (List UInt8)} (h : RefRep F w s l) {a : Option Addr} (c : Nat) {xs : List UInt8} (hr : Row G w a (bvs xs)) (hA : a = none → c = 0) (h1 : xs.length ≤ 4096) (h2 : l.length < 64) :
    Calls Try.prog 27 #[.pointer (some ⟨s, 0, none⟩), .slice a xs.length c] w (RefGot F w s (.int .i64 0) (l ++ [xs])) := by
  obtain ⟨R, E, al, cl, vs, hFs, hs, hR, hE, hb, hown, hall⟩ := h
  have hc0 : w.cell? ⟨s, 0, none⟩ = some (.slice al l.length cl) := hb.cell 0
  obtain ⟨i0, hi, hz0, hz1, hz2⟩ := info_parts infoBytes
  have hi0 := Lib.hid (And.intro hi (And.intro hz0 (And.intro hz1 hz2)))
  clear hi hz0 hz1 hz2
  have HC0 := Lib.hid hc0
  have HB := Lib.hid hb
  have HO := Lib.hid hown
  have HA := Lib.hid hall
  have HR := Lib.hid hr
  have HRA := Lib.hid hA
  have HRs := Lib.hid hR
  have HEs := Lib.hid hE
  clear hb hown hall hr hR hE hA
  go_enter Try.func27, Try.ntmps27
  go_wp2
  go_region_law (first
    | (go_simp; go_at_call 55; refine (copied19 _ c HR.out.drew HRA.out (by omega)).mono ?_; rintro e w1 ⟨a1, c1, rfl, hown1, hup1⟩
       have HO1 := Lib.hid hown1; have HU1 := Lib.hid hup1; clear hown1 hup1
       have hd0 := HU1.out.cell (a := ⟨s, 0, none⟩) HC0.out (fun f => f); have hlt1 : s < w1.heap.size := World.block_lt_of_cell? w1 _ hd0)
    | (refine step_append_Own rfl (.tmp 18) (.tmp 21) 22 rfl Try.underlying22 hi0.out.1 hi0.out.2.1 hi0.out.2.2.1 hi0.out.2.2.2 rfl (by decide) rfl ((HO.out.drew.keep HU1.out).alloc _) rfl (one_row w1 _ _) (by simp) (by simp [Value.oneCell']) (by intro h; cases h) (by simp only [maxLen]; omega) (by omega) ?_
       intro a2 c2 w2 hown2 hup2 hne2
       have hb2 := ((HB.out.drew.upd HU1.out (fun f => f)).alloc (.cells #[.slice a1 xs.length c1] 25)).upd hup2 (fun f => (HRs.out _ f).2.1 rfl)
       have HO2 := Lib.hid hown2; have HU2 := Lib.hid hup2; clear hown2 hup2 hne2
       have he0 := hb2.cell 0; have hf0 := hb2.frozen 0
       clear hb2))
  all_goals go_wp2
  all_goals go_ret
  all_goals
    obtain ⟨F', R', E', vs', hrep, hup, hF⟩ := snoc_end (t := 56) (cells := []) hFs hs HRs.out HEs.out HB.out HA.out (show Own (Fr w w1) w1 _ 1 _ _ _ _ from HO1.out) HU1.out.ofDrew HO2.out HU2.out
    obtain ⟨r1, r2, r3, r4, r5, r6, r7⟩ := hrep
    refine ⟨rfl, F', ⟨R', E', a2, c2, vs', r1, r2, r3, r4, ?_, ?_, r7⟩, hup, hF⟩
    · simpa using r5
    · simpa using r6

theorem ref_Look_yes {F : Nat → Prop} (w : World) {s : Nat} {l : List (List UInt8)} (h : RefRep F w s l) {i : Nat} (hi : i < l.length) (hx : (l[i]).length ≤ 140737488355328) :
    Calls Try.prog 32 #[.pointer (some ⟨s, 0, none⟩), .int .i64 i] w (ToldBytes w l[i]) := by
  obtain ⟨R, E, al, cl, vs, hFs, hs, hR, hE, hb, hown, hall⟩ := h
  have hc0 : w.cell? ⟨s, 0, none⟩ = some (.slice al l.length cl) := hb.cell 0
  obtain ⟨v, hv, a, c, rfl, hr, hac, _⟩ := hall.get hi
  obtain ⟨b, o, rfl, _, hcell⟩ := rowAt hown.row hv
  have HR := Lib.hid hr
  have HAC := Lib.hid hac
  clear hb hown hall hR hE hv hac hr
  go_enter Try.func32, Try.ntmps32
  go_wp2_with (go_at_call 55; refine (copied19 _ c HR.out HAC.out hx).mono ?_; rintro e w1 ⟨a1, c1, rfl, hown1, hup1⟩; have HO1 := Lib.hid hown1; have HU1 := Lib.hid hup1; clear hown1 hup1)
  go_ret2
  exact ⟨a1, c1, rfl, HO1.out, HU1.out⟩

theorem ref_Look_no {F : Nat → Prop} (w : World) {s : Nat} {l : List (List UInt8)} (h : RefRep F w s l) {i : Int} (hi : NoPlace l i) :
    Calls Try.prog 32 #[.pointer (some ⟨s, 0, none⟩), .int .i64 i] w fun e w' => e = .returned (.tuple #[.slice none 0 0, .int .i64 190]) ∧ w = w' := by
  obtain ⟨R, E, al, cl, vs, hFs, hs, hR, hE, hb, hown, hall⟩ := h
  have hc0 : w.cell? ⟨s, 0, none⟩ = some (.slice al l.length cl) := hb.cell 0
  clear hb hown hall hR hE
  by_cases h0 : i < 0
  · clear hi
    go_enter Try.func32, Try.ntmps32
    go_wp2
    go_ret2
    exact ⟨rfl, rfl⟩
  · obtain ⟨m, rfl⟩ : ∃ m : Nat, i = m := ⟨i.toNat, by omega⟩
    have hi' : l.length ≤ m := by unfold NoPlace at hi; omega
    clear hi h0
    go_enter Try.func32, Try.ntmps32
    go_wp2
    go_ret2
    exact ⟨rfl, rfl⟩

theorem ref_Take_no {F : Nat → Prop} (w : World) {s : Nat} {l : List (List UInt8)} (h : RefRep F w s l) {i : Int} (hi : NoPlace l i) :
    Calls Try.prog 31 #[.pointer (some ⟨s, 0, none⟩), .int .i64 i] w fun e w' => e = .returned (.tuple #[.slice none 0 0, .int .i64 190]) ∧ w = w' := by
  have HLk := Lib.hid (ref_Look_no w h hi)
  clear h hi
  go_enter Try.func31, Try.ntmps31
  go_wp2_with (go_at_call 32; refine HLk.out.mono ?_; rintro e w' ⟨rfl, rfl⟩)
  go_ret2
  exact ⟨rfl, rfl⟩

theorem fresh_end {F R E Rn : Nat → Prop} {w w3 : World} {s : Nat} {t : TypeId} {cells : List Value} {l' : List (List UInt8)} {a3 : Option Addr} {n3 c3 : Nat} {v0 : Value} {vs' : List Value}
    (hFs : F s) (hs : s < w.heap.size) (_hR : ∀ k, R k → F k ∧ k ≠ s ∧ k < w.heap.size) (hE : ∀ k, E k → F k ∧ k ≠ s ∧ ¬ R k ∧ k < w.heap.size)
    (hb : Blk w s t (v0 :: cells).toArray) (hall : All2 (Elem E w) vs' l') (hn : n3 = l'.length)
    (hown3 : Own Rn w3 25 1 a3 n3 c3 vs') (hRn : ∀ k, Rn k → w.heap.size ≤ k ∧ k < w3.heap.size) (hup : Upd Nil w w3) :
    Bag t cells (fun k => F k ∨ Fr w w3 k) (w3.setCell ⟨s, 0, none⟩ (.slice a3 n3 c3)) s l' ∧ Upd F w (w3.setCell ⟨s, 0, none⟩ (.slice a3 n3 c3)) := by
  subst hn
  have hz := hup.size
  have hsz : (w3.setCell ⟨s, 0, none⟩ (.slice a3 l'.length c3)).heap.size = w3.heap.size := by simp
  have b3 := (hb.upd hup (fun f => f)).set 0 (.slice a3 l'.length c3)
  have one : Upd (One s) w3 (w3.setCell ⟨s, 0, none⟩ (.slice a3 l'.length c3)) := (Upd.refl (One s) w3).setCell (p := ⟨s, 0, none⟩) (.inl rfl) _
  refine ⟨⟨Rn, E, a3, c3, vs', .inl hFs, by omega, fun k hk => ?_, fun k hk => ?_, by simpa using b3, hown3.upd one ?_, hall.mono (fun v x h => (h.keep hup).upd one ?_)⟩, (hup.ofNil (G := F)).setCell (p := ⟨s, 0, none⟩) (.inl hFs) _⟩
  · obtain ⟨h1, h2⟩ := hRn k hk
    exact ⟨.inr ⟨h1, h2⟩, by omega, by omega⟩
  · obtain ⟨e1, e2, e3, e4⟩ := hE k hk
    exact ⟨.inl e1, e2, fun h => by have := (hRn k h).1; omega, by omega⟩
  · rintro k hk rfl
    have := (hRn _ hk).1
    omega
  · rintro k he rfl
    exact (hE _ he).2.1 rfl

set_option maxHeartbeats 2000000 in
theorem ref_Take_yes {F : Nat → Prop} (w : World) {s : Nat} {l : List (List UInt8)} (h : RefRep F w s l) {i : Nat} (hi : i < l.length) (hl : l.length ≤ 1000000) (hx : (l[i]).length ≤ 140737488355328) :
    Calls Try.prog 31 #[.pointer (some ⟨s, 0, none⟩), .int .i64 i] w (TookBytes 56 [] F w s l[i] (l.eraseIdx i)) := by
  have HLk := Lib.hid (ref_Look_yes w h hi hx)
  obtain ⟨R, E, al, cl, vs, hFs, hs, hR, hE, hb, hown, hall⟩ := h
  obtain ⟨g, rfl, hg⟩ := hown.isNone (by omega)
  have hle := hown.le
  have hcm := le_max hle.2
  obtain ⟨hnc, _⟩ := hle
  have hc0 : w.cell? ⟨s, 0, none⟩ = some (.slice (some ⟨g, 0, none⟩) l.length cl) := hb.cell 0
  obtain ⟨i0, hi1, hz0, hz1, hz2⟩ := info_parts infoBytes
  have hi0 := Lib.hid (And.intro hi1 (And.intro hz0 (And.intro hz1 hz2)))
  clear hi1 hz0 hz1 hz2
  have hic : i ≤ cl := by omega
  have hin' : (i : Int) + 1 ≤ l.length := by omega
  have h0 : 0 ≤ (i : Int) + 1 := by omega
  have hwr : IntKind.i64.wrap ((i : Int) + 1) = (i : Int) + 1 := IntWalk.i64_in _ (by omega)
  have hlen : vs.length = l.length := by have := hown.1; simpa using this
  obtain ⟨A, hA⟩ : ∃ A, (if cl = i + 1 then some (⟨g, 0, none⟩ : Addr) else some ⟨g, i + 1, none⟩) = A := ⟨_, rfl⟩
  have hrow : Row R w A (vs.drop (i + 1)) := by
    have := hown.row.dropAt (i + 1) cl (by omega) (by omega)
    rw [← hA]
    simpa using this
  have hAn : A = none → cl - (i + 1) = 0 := by
    rw [← hA]
    split <;> intro h <;> cases h
  have HB := Lib.hid hb
  have HO := Lib.hid hown
  have HA := Lib.hid hall
  have HRs := Lib.hid hR
  have HEs := Lib.hid hE
  have HC0 := Lib.hid hc0
  have HRo := Lib.hid hrow
  have HAn := Lib.hid hAn
  have HLen := Lib.hid hlen
  clear hb hown hall hR hE hc0 hrow hAn hlen
  go_enter Try.func31, Try.ntmps31
  go_wp2_with (go_at_call 32; refine HLk.out.mono ?_; rintro e w1 ⟨a1, c1, rfl, hown1, hup1⟩; have HO1 := Lib.hid hown1; have HU1 := Lib.hid hup1; have hd0 := hup1.cell HC0.out (fun f => f); have hlt1 : s < w1.heap.size := World.block_lt_of_cell? w1 _ hd0; clear hown1 hup1)
  go_region_law (first
    | (refine step_append_Own (m := i) (d := cl) rfl (.tmp 17) (.tmp 23) 22 rfl Try.underlying22 hi0.out.1 hi0.out.2.1 hi0.out.2.2.1 hi0.out.2.2.2 rfl (by decide) (by simp [Act.eval, Act.put]) ((Own.lit w1.drew #[] 0 (Nat.zero_le _) rfl : Own (One w1.heap.size) (w1.drew.alloc (.cells #[] 25)) 25 1 _ _ _ _)) (by simp [Act.eval, Act.put]) (((HO.out.shorten (Nat.le_of_lt hi)).row.keep HU1.out).drew.alloc _) (by simp [HLen.out]; omega) (fun u hu => all2_oneCell HA.out u (List.mem_of_mem_take hu)) (by intro h; cases h) (by simp only [maxLen]; omega) (by omega) ?_
       intro a2 c2 w2 hown2 hup2 hne2
       have HO2 := Lib.hid hown2; have HU2 := Lib.hid hup2
       have he0 := (((HB.out.upd HU1.out (fun f => f)).drew).alloc (.cells #[] 25)).upd hup2 (fun f => by have hh : s = w1.heap.size := f; omega)
       have he1 := he0.cell 0
       have HE0 := Lib.hid he0
       clear hown2 hup2 hne2 he0)
    | (refine step_append_Own (m := l.length - (i + 1)) (d := cl - (i + 1)) rfl (.tmp 24) (.tmp 31) 22 rfl Try.underlying22 hi0.out.1 hi0.out.2.1 hi0.out.2.2.1 hi0.out.2.2.2 rfl (by decide) (by simp [Act.eval, Act.put]) HO2.out (by simp [Act.eval, Act.put]) (((HRo.out.keep HU1.out).drew.alloc _).upd HU2.out (fun k hk f => by have h1 := (HRs.out k hk).2.2; have h2 := HU1.out.size; have h3 : k = w1.heap.size := f; omega)) (by simp [HLen.out]) (fun u hu => all2_oneCell HA.out u (List.mem_of_mem_drop hu)) HAn.out (by simp only [maxLen]; omega) (by omega) ?_
       intro a3 c3 w3 hown3 hup3 hne3
       have HO3 := Lib.hid hown3; have HU3 := Lib.hid hup3
       have hz1 := HU1.out.size; have hz2 := HU2.out.size
       have he0 := HE0.out.upd hup3 (fun f => by rcases f with f | f; · have hh : s = w1.heap.size := f; omega
                                                 · have hh := f.1; simp at hh; omega)
       have he3 := he0.cell 0; have hf3 := he0.frozen 0
       have HE3 := Lib.hid he0
       clear hown3 hup3 hne3 he0))
  all_goals go_wp2
  all_goals go_ret2
  all_goals
    have hz1 := HU1.out.size
    have hz2 := HU2.out.size
    have hz3 := HU3.out.size
    simp at hz2
    have hu12 : Upd Nil w1 w2 := ((Upd.refl Nil w1).drew.alloc _).trans HU2.out (fun k f hk => by have h3 : k = w1.heap.size := f; omega)
    have hu13 : Upd Nil w1 w3 := hu12.trans HU3.out (fun k f hk => by rcases f with f | f; · have h3 : k = w1.heap.size := f; omega
                                                                      · have := f.1; simp at this; omega)
    have hn3 : 0 + i + (l.length - (i + 1)) = (l.eraseIdx i).length := by rw [List.length_eraseIdx_of_lt hi]; omega
    have he : vs.take (i * 1) ++ vs.drop (i + 1) = vs.eraseIdx i := by rw [Nat.mul_one, List.eraseIdx_eq_take_drop_succ]
    obtain ⟨hbag, hup⟩ := fresh_end (t := 56) (cells := []) hFs hs HRs.out HEs.out HB.out (all2_erase i HA.out) hn3 (by rw [← he]; simpa using HO3.out) (by
      rintro k ((h | h) | h)
      · have h3 : k = w1.heap.size := h
        omega
      · have h3 := h.1
        simp at h3
        exact ⟨by omega, by have := h.2; omega⟩
      · exact ⟨by have := h.1; omega, h.2⟩) (HU1.out.trans hu13 (fun _ f _ => f))
    rw [Nat.zero_add] at hbag hup
    refine ⟨a1, c1, rfl, (HO1.out.upd (hu13.ofNil (G := One s)) ?_).upd ((Upd.refl (One s) w3).setCell (p := ⟨s, 0, none⟩) (.inl rfl) _) ?_ |>.mono ?_, _, hbag, hup, fun k hk => ?_⟩
    · rintro k hk rfl
      have := hk.1
      omega
    · rintro k hk rfl
      have := hk.1
      omega
    · rintro k ⟨h1, h2⟩
      exact ⟨h1, by simp; omega⟩
    · rcases hk with h | h
      · exact .inl h
      · exact .inr ⟨h.1, by simpa using h.2⟩

theorem ref_Drop_no {F : Nat → Prop} (w : World) {s : Nat} {l : List (List UInt8)} (h : RefRep F w s l) {i : Int} (hi : NoPlace l i) :
    Calls Try.prog 29 #[.pointer (some ⟨s, 0, none⟩), .int .i64 i] w fun e w' => e = .returned (.int .i64 190) ∧ w = w' := by
  have HLk := Lib.hid (ref_Take_no w h hi)
  clear h hi
  go_enter Try.func29, Try.ntmps29
  go_wp2_with (go_at_call 31; refine HLk.out.mono ?_; rintro e w' ⟨rfl, rfl⟩)
  go_ret
  exact ⟨rfl, rfl⟩

theorem ref_Drop_yes {F : Nat → Prop} (w : World) {s : Nat} {l : List (List UInt8)} (h : RefRep F w s l) {i : Nat} (hi : i < l.length) (hl : l.length ≤ 1000000) (hx : (l[i]).length ≤ 140737488355328) :
    Calls Try.prog 29 #[.pointer (some ⟨s, 0, none⟩), .int .i64 i] w (RefGot F w s (.int .i64 0) (l.eraseIdx i)) := by
  have HT := Lib.hid (ref_Take_yes w h hi hl hx)
  clear h
  go_enter Try.func29, Try.ntmps29
  go_wp2_with (go_at_call 31; refine HT.out.mono ?_; rintro e w1 ⟨a1, c1, rfl, _, hend⟩; have HE := Lib.hid hend; clear hend)
  go_ret
  exact ⟨rfl, HE.out⟩

theorem ref_Twice_no {F : Nat → Prop} (w : World) {s : Nat} {l : List (List UInt8)} (h : RefRep F w s l) {i : Int} (hi : NoPlace l i) :
    Calls Try.prog 30 #[.pointer (some ⟨s, 0, none⟩), .int .i64 i] w fun e w' => e = .returned (.int .i64 190) ∧ w = w' := by
  have HLk := Lib.hid (ref_Look_no w h hi)
  clear h hi
  go_enter Try.func30, Try.ntmps30
  go_wp2_with (go_at_call 32; refine HLk.out.mono ?_; rintro e w' ⟨rfl, rfl⟩)
  go_ret
  exact ⟨rfl, rfl⟩

theorem ref_Twice_yes {F : Nat → Prop} (w : World) {s : Nat} {l : List (List UInt8)} (h : RefRep F w s l) {i : Nat} (hi : i < l.length) (hl : l.length < 64) (hx : (l[i]).length ≤ 4096) :
    Calls Try.prog 30 #[.pointer (some ⟨s, 0, none⟩), .int .i64 i] w (RefGot F w s (.int .i64 0) (l ++ [l[i]])) := by
  have HLk := Lib.hid (ref_Look_yes w h hi (by omega))
  have HB := Lib.hid h
  clear h
  go_enter Try.func30, Try.ntmps30
  go_wp2_with (first
    | (go_at_call 32; refine HLk.out.mono ?_; rintro e w1 ⟨a1, c1, rfl, hown1, hup1⟩; have HO1 := Lib.hid hown1; have HU1 := Lib.hid hup1; clear hown1 hup1)
    | (go_at_call 27; refine (ref_send _ (HB.out.upd HU1.out (fun _ _ f => f)) c1 HO1.out.row HO1.out.noneCap hx hl).mono ?_; rintro e w2 ⟨rfl, F', hb2, hu2, hF2⟩; have HB2 := Lib.hid hb2; have HU2 := Lib.hid hu2; have HF2 := Lib.hid hF2; clear hb2 hu2 hF2))
  go_ret
  have hz1 := HU1.out.size
  refine ⟨rfl, F', HB2.out, (HU1.out.ofNil (G := F)).trans HU2.out (fun k hk _ => hk), fun k hk => ?_⟩
  rcases HF2.out k hk with h | h
  · exact .inl h
  · exact .inr ⟨by have := h.1; omega, h.2⟩

theorem ref_Twice_full {F : Nat → Prop} (w : World) {s : Nat} {l : List (List UInt8)} (h : RefRep F w s l) {i : Nat} (hi : i < l.length) (hl : 64 ≤ l.length) (hx : (l[i]).length ≤ 4096) :
    Calls Try.prog 30 #[.pointer (some ⟨s, 0, none⟩), .int .i64 i] w fun e w' => e = .returned (.int .i64 4) ∧ Upd Nil w w' := by
  have HLk := Lib.hid (ref_Look_yes w h hi (by omega))
  have HB := Lib.hid h
  clear h
  go_enter Try.func30, Try.ntmps30
  go_wp2_with (first
    | (go_at_call 32; refine HLk.out.mono ?_; rintro e w1 ⟨a1, c1, rfl, hown1, hup1⟩; have HO1 := Lib.hid hown1; have HU1 := Lib.hid hup1; clear hown1 hup1)
    | (go_at_call 27; refine (ref_send_full _ (HB.out.upd HU1.out (fun _ _ f => f)) _ _ _ hx hl).mono ?_; rintro e w2 ⟨rfl, rfl⟩))
  go_ret
  exact ⟨rfl, HU1.out⟩
end Go.Proofs.Ytbaombnnagidcaa
