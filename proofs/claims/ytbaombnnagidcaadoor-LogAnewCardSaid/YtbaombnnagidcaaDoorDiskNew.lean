/- A disk of noughts: disk.New. -/
import Derived.Test.YtbaombnnagidcaaDoorDisk2
import Derived.Test.YtbaombnnagidcaaDoorMake
namespace Go.Proofs.YtbaombnnagidcaaDoor
open Go.RowKit

/-- The disk, its blocks named. -/
def DParts (t : TypeId) (F R Q E : Nat → Prop) (w : World) (s : Nat) (B : List (List UInt8)) (P : List Snt) : Prop :=
  ∃ (a : Option Addr) (c : Nat) (vs : List Value) (p : Option Addr) (d : Nat) (us : List Value), F s ∧
    (∀ k, R k → F k ∧ k ≠ s ∧ k < w.heap.size) ∧ (∀ k, Q k → F k ∧ k ≠ s ∧ ¬ R k ∧ k < w.heap.size) ∧ (∀ k, E k → F k ∧ k ≠ s ∧ ¬ R k ∧ ¬ Q k ∧ k < w.heap.size) ∧
    Blk w s t #[.slice a B.length c, .slice p P.length d] ∧ Own R w 22 1 a B.length c vs ∧ Own Q w 145 2 p P.length d us ∧ All2 (Elem E w) vs B ∧ Sents E w us P
theorem DParts.rep {t : TypeId} {F R Q E : Nat → Prop} {w : World} {s : Nat} {B : List (List UInt8)} {P : List Snt} (h : DParts t F R Q E w s B P) : DRep t F w s B P := ⟨R, Q, E, h⟩

/-- an empty disk, just laid -/
theorem DParts.new {t : TypeId} {E : Nat → Prop} (w : World) (hE : ∀ k, E k → k < w.heap.size) : DParts t (fun k => E k ∨ k = w.heap.size) Nil Nil E (w.alloc (.cells #[.slice none 0 0, .slice none 0 0] t)) w.heap.size [] [] :=
  ⟨none, 0, [], none, 0, [], .inr rfl, fun _ f => f.elim, fun _ f => f.elim, fun k hk => ⟨.inl hk, by have := hE k hk; omega, fun f => f, fun f => f, by have := hE k hk; simp; omega⟩, Blk.new w t _, Own.none_ _ _ _ _, Own.none_ _ _ _ _, trivial, trivial⟩

theorem DParts.keep {t : TypeId} {F R Q E : Nat → Prop} {w w' : World} {s : Nat} {B : List (List UInt8)} {P : List Snt} (h : DParts t F R Q E w s B P) (u : Upd Nil w w') : DParts t F R Q E w' s B P := by
  obtain ⟨a, c, vs, p, d, us, h1, h3, h4, h5, h6, h7, h8, h9, h10⟩ := h
  have hz := u.size
  refine ⟨a, c, vs, p, d, us, h1, fun k hk => ?_, fun k hk => ?_, fun k hk => ?_, h6.upd u (fun f => f), h7.keep u, h8.keep u, h9.mono (fun v x h => h.keep u), h10.upd u (fun _ _ f => f)⟩
  · obtain ⟨e1, e2, e3⟩ := h3 k hk
    exact ⟨e1, e2, by omega⟩
  · obtain ⟨e1, e2, e3, e4⟩ := h4 k hk
    exact ⟨e1, e2, e3, by omega⟩
  · obtain ⟨e1, e2, e3, e4, e5⟩ := h5 k hk
    exact ⟨e1, e2, e3, e4, by omega⟩
/-- more blocks for the texts -/
theorem DParts.more {t : TypeId} {F R Q E G : Nat → Prop} {w : World} {s : Nat} {B : List (List UInt8)} {P : List Snt} (h : DParts t F R Q E w s B P) (hG : ∀ k, G k → k ≠ s ∧ ¬ R k ∧ ¬ Q k ∧ k < w.heap.size) : DParts t (fun k => F k ∨ G k) R Q (fun k => E k ∨ G k) w s B P := by
  obtain ⟨a, c, vs, p, d, us, h1, h3, h4, h5, h6, h7, h8, h9, h10⟩ := h
  refine ⟨a, c, vs, p, d, us, .inl h1, fun k hk => ⟨.inl (h3 k hk).1, (h3 k hk).2⟩, fun k hk => ⟨.inl (h4 k hk).1, (h4 k hk).2⟩, ?_, h6, h7, h8, h9.mono (fun v x h => h.mono (fun k h => .inl h)), h10.mono (fun v x h => h.mono (fun k h => .inl h))⟩
  rintro k (hk | hk)
  · exact ⟨.inl (h5 k hk).1, (h5 k hk).2⟩
  · obtain ⟨e1, e2, e3, e4⟩ := hG k hk
    exact ⟨.inr hk, e1, e2, e3, e4⟩

/-- What the last store of an append of a sector leaves. -/
theorem sect_end {t : TypeId} {F R Q E : Nat → Prop} {w w2 : World} {s : Nat} {B : List (List UInt8)} {P : List Snt} {x : List UInt8} {v : Value} {a a2 : Option Addr} {c c2 : Nat} {vs : List Value} {o : Obj}
    (h : DParts t F R Q E w s B P) (hc : w.cell? ⟨s, 0, none⟩ = some (.slice a B.length c)) (hvs : All2 (Elem E w) vs B) (hv : Elem E w v x)
    (hown2 : Own (fun k => R k ∨ Fr (w.alloc o) w2 k) w2 22 1 a2 (B.length + 1) c2 (vs ++ [v])) (hup2 : Upd R (w.alloc o) w2) :
    DParts t (fun k => F k ∨ Fr (w.alloc o) w2 k) (fun k => R k ∨ Fr (w.alloc o) w2 k) Q E (w2.setCell ⟨s, 0, none⟩ (.slice a2 (B.length + 1) c2)) s (B ++ [x]) P ∧ Upd (fun k => R k ∨ k = s) w (w2.setCell ⟨s, 0, none⟩ (.slice a2 (B.length + 1) c2)) := by
  obtain ⟨a', c', vs', p, d, us, hFs, hR, hQ, hE, hb, _, hq, _, hsent⟩ := h
  have hs := hb.lt
  have hz2 := hup2.size
  simp only [World.size_alloc] at hz2
  have hsz : (w2.setCell ⟨s, 0, none⟩ (.slice a2 (B.length + 1) c2)).heap.size = w2.heap.size := by simp
  have hRs : ¬ R s := fun h => (hR s h).2.1 rfl
  have b2 : Blk w2 s t _ := (hb.alloc o).upd hup2 hRs
  have b3 := b2.set 0 (.slice a2 (B.length + 1) c2)
  have one : Upd (One s) w2 (w2.setCell ⟨s, 0, none⟩ (.slice a2 (B.length + 1) c2)) := (Upd.refl (One s) w2).setCell (p := ⟨s, 0, none⟩) (.inl rfl) _
  have elem : ∀ v x, Elem E w v x → Elem E (w2.setCell ⟨s, 0, none⟩ (.slice a2 (B.length + 1) c2)) v x := fun v x h =>
    (((h.keep ((Upd.refl Nil w).alloc o)).upd hup2 (fun k he hr => (hE k he).2.2.1 hr)).upd one (fun k he e => (hE k he).2.1 e))
  refine ⟨⟨a2, c2, vs ++ [v], p, d, us, .inl hFs, ?_, ?_, ?_, ?_, ?_, ?_, ?_, ?_⟩, ?_⟩
  · rintro k (h | ⟨h1, h2⟩)
    · obtain ⟨e1, e2, e3⟩ := hR k h
      exact ⟨.inl e1, e2, by omega⟩
    · have h1' := h1
      simp only [World.size_alloc] at h1'
      exact ⟨.inr ⟨h1, h2⟩, by omega, by omega⟩
  · intro k h
    obtain ⟨e1, e2, e3, e4⟩ := hQ k h
    refine ⟨.inl e1, e2, ?_, by omega⟩
    rintro (r | ⟨r, _⟩)
    · exact e3 r
    · simp only [World.size_alloc] at r
      omega
  · intro k h
    obtain ⟨e1, e2, e3, e4, e5⟩ := hE k h
    refine ⟨.inl e1, e2, ?_, e4, by omega⟩
    rintro (r | ⟨r, _⟩)
    · exact e3 r
    · simp only [World.size_alloc] at r
      omega
  · simpa using b3
  · have := hown2.upd one (by
      rintro k (h | ⟨h1, h2⟩) rfl
      · exact hRs h
      · simp only [World.size_alloc] at h1
        omega)
    simpa using this
  · exact ((hq.alloc o).upd hup2 (fun k h r => (hQ k h).2.2.1 r)).upd one (fun k h e => (hQ k h).2.1 e)
  · exact (hvs.mono elem).snoc (elem _ _ hv)
  · exact hsent.mono elem
  · exact ((((Upd.refl Nil w).alloc o).ofNil (G := fun k => R k ∨ k = s)).trans hup2 (fun k h _ => .inl h)).setCell (p := ⟨s, 0, none⟩) (.inl (.inr rfl)) _

theorem disk_New_no (w : World) {n : Int} (hn : n < 1 ∨ 4096 < n) :
    Calls Tryd.prog 37 #[.int .i64 n] w fun e w' => e = .returned (.tuple #[.pointer none, .int .i64 1]) ∧ w = w' := by
  by_cases h1 : n < 1
  · clear hn
    go_enter Tryd.func37, Tryd.ntmps37
    go_wp2
    go_ret2
    exact ⟨rfl, rfl⟩
  · have h2 : 4096 < n := by omega
    clear hn
    go_enter Tryd.func37, Tryd.ntmps37
    go_wp2
    go_ret2
    exact ⟨rfl, rfl⟩

/-- a sector of noughts -/
def noughts : List UInt8 := List.replicate 128 0
theorem length_noughts : noughts.length = 128 := by simp [noughts]

/-- a new disk of sectors of noughts, in blocks of its own -/
def GotDisk (t : TypeId) (w : World) (B : List (List UInt8)) (e : Ending) (w' : World) : Prop :=
  ∃ s F, e = .returned (.tuple #[.pointer (some ⟨s, 0, none⟩), .int .i64 0]) ∧ DRep t F w' s B [] ∧ (∀ k, F k → Fr w w' k) ∧ Upd Nil w w'

set_option maxHeartbeats 1000000 in
theorem disk_New_yes (w : World) {n : Nat} (h1 : 1 ≤ n) (h2 : n ≤ 4096) :
    Calls Tryd.prog 37 #[.int .i64 n] w (GotDisk 76 w (List.replicate n noughts)) := by
  obtain ⟨i0, hi, hz0, hz1, hz2⟩ := info_parts infoBytes
  have hi0 := Lib.hid (And.intro hi (And.intro hz0 (And.intro hz1 hz2)))
  clear hi hz0 hz1 hz2
  have hmk := makeBytes (n := n * 128) (z := (n : Int) * 128) (by simp) (by omega)
  go_enter Tryd.func37, Tryd.ntmps37
  go_wp2
  obtain ⟨W0, hW0⟩ : ∃ W0, w.alloc (.cells (Array.replicate (n * 128) (Value.int .u8 0)) 5) = W0 := ⟨_, rfl⟩
  have hall : Row (One w.heap.size) W0 (some ⟨w.heap.size, 0, none⟩) (bvs (List.replicate (n * 128) 0)) := by rw [← hW0]; exact (own_zeros w (by simp only [maxLen]; omega)).row
  have hsz : W0.heap.size = w.heap.size + 1 := by rw [← hW0]; simp
  have hU0 : Upd Nil w W0 := by rw [← hW0]; exact (Upd.refl Nil w).alloc _
  rw [← hsz]
  rw [hW0]
  have HAll := Lib.hid hall
  have HSz := Lib.hid hsz
  have HU0 := Lib.hid hU0
  clear hW0 hall hsz hU0 hmk
  go_loopg [19] n (fun k i wr => ∃ j : Nat, j + k = n ∧ i = .int .i64 j ∧ ∃ R F : Nat → Prop, DParts 76 F R Nil (One w.heap.size) wr W0.heap.size (List.replicate j noughts) [] ∧ (∀ k, F k → Fr w wr k) ∧ (∀ k, R k → W0.heap.size ≤ k) ∧ Upd Nil w wr ∧ Upd Nil W0 wr)
  case atStart =>
    refine ⟨0, by omega, rfl, Nil, _, DParts.new W0 (fun k hk => by have := HSz.out; have hk' : k = w.heap.size := hk; omega), ?_, fun _ f => f.elim, HU0.out.alloc _, (Upd.refl Nil W0).alloc _⟩
    have := HSz.out
    rintro k (hk | rfl)
    · have hk' : k = w.heap.size := hk
      exact ⟨by omega, by simp; omega⟩
    · exact ⟨by omega, by simp⟩
  case round =>
    obtain ⟨j, hjk, rfl, R, F, hparts, hF, hRge, hup, hup0⟩ := hrel
    have hjn : j ≤ n := by omega
    have HJ := Lib.hid hjk
    have HP := Lib.hid hparts
    have HF := Lib.hid hF
    have HRge := Lib.hid hRge
    have HU := Lib.hid hup
    have HW := Lib.hid hup0
    clear hjk hF hup hup0 hRge
    obtain ⟨a, c, vs, p, d, us, hFs, hR, hQ, hE, hb, hown, hq, hvs, hsent⟩ := hparts
    rw [List.length_replicate] at hb hown
    have hc0 : wr.cell? ⟨W0.heap.size, 0, none⟩ = some (.slice a j c) := hb.cell 0
    have hlt0 : W0.heap.size < wr.heap.size := hb.lt
    have HB := Lib.hid hb
    have HO := Lib.hid hown
    have HV := Lib.hid hvs
    have HR := Lib.hid hR
    clear hR hQ hE hb hown hq hvs hsent hFs
    by_cases hlt : j < n
    · go_wp2
      obtain ⟨lo, hlo⟩ : ∃ lo, lo = j * 128 := ⟨_, rfl⟩
      obtain ⟨hi, hhi⟩ : ∃ hi, hi = lo + 128 := ⟨_, rfl⟩
      have hw1 : IntKind.i64.wrap ((j : Int) * 128) = (lo : Int) := by rw [IntWalk.i64_in _ (by omega)]; omega
      have hw2 : IntKind.i64.wrap ((j : Int) + 1) = (j : Int) + 1 := IntWalk.i64_in _ (by omega)
      have hw3 : IntKind.i64.wrap (((j : Int) + 1) * 128) = (hi : Int) := by rw [IntWalk.i64_in _ (by omega)]; omega
      have hb1 : (hi : Int) ≤ (n : Int) * 128 := by omega
      have hb4 : lo ≤ hi := by omega
      have hne : ¬ hi = lo := by omega
      have hsub : hi - lo = 128 := by omega
      have HLo := Lib.hid hlo
      have HHi := Lib.hid hhi
      clear hlo hhi
      go_region_law (refine step_append_Own rfl (.tmp 27) (.tmp 38) 59 rfl Tryd.underlying59 hi0.out.1 hi0.out.2.1 hi0.out.2.2.1 hi0.out.2.2.2 rfl (by decide) rfl ((HO.out.alloc _).drew) rfl ((one_row wr (.slice (some ⟨w.heap.size, lo, none⟩) 128 128) 22).drew) (by simp) (by simp [Value.oneCell']) (by intro h; cases h) (by simp only [maxLen]; omega) (by omega) ?_
                     intro a2 c2 w2 hown2 hup2 hne2
                     have hb2 := (HB.out.alloc (.cells #[.slice (some ⟨w.heap.size, lo, none⟩) 128 128] 22)).drew.upd hup2 (fun f => (HR.out _ f).2.1 rfl)
                     have HO2 := Lib.hid hown2; have HU2 := Lib.hid hup2; clear hown2 hup2 hne2
                     have he0 := hb2.cell 0; have hf0 := hb2.frozen 0
                     clear hb2)
      all_goals go_wp2
      all_goals go_roundg (gk - 1)
      all_goals first
        | (have := HJ.out; omega)
        | (have hel : Elem (One w.heap.size) wr (.slice (some ⟨w.heap.size, lo, none⟩) 128 128) noughts := by
             refine ⟨_, _, rfl, ?_, (fun h => by cases h), by rw [length_noughts]; exact Nat.le_refl _, by simp only [maxLen]; omega⟩
             have hcut : ((bvs (List.replicate (n * 128) 0)).drop lo).take 128 = bvs noughts := by
               rw [← bvs_drop, ← bvs_take, noughts, List.drop_replicate, List.take_replicate, Nat.min_eq_left]
               have := HLo.out; have := HHi.out; omega
             have hrow := ((HAll.out.keep HW.out).cut lo 128 (b := w.heap.size) (o := 0) (by rw [hcut]; intro e; have := congrArg List.length e; simp [length_noughts] at this) rfl)
             rw [hcut, Nat.zero_add] at hrow
             exact hrow
           obtain ⟨hp, hu⟩ := sect_end (o := .cells #[.slice (some ⟨w.heap.size, lo, none⟩) 128 128] 22) HP.out (by rw [List.length_replicate]; exact hc0) HV.out hel (by rw [List.length_replicate]; exact HO2.out) HU2.out.ofDrew
           rw [List.length_replicate, ← List.replicate_succ'] at hp
           rw [List.length_replicate] at hu
           have hs0 := HW.out.size
           have hs1 := HSz.out
           have hz2 := HU2.out.size
           simp only [World.drew, World.size_alloc] at hz2
           refine ⟨j + 1, by have := HJ.out; omega, by go_num, _, _, hp, ?_, ?_, HU.out.trans hu (fun k hk hlt => ?_), HW.out.trans hu (fun k hk hlt => ?_)⟩
           · rintro k (h | ⟨e1, e2⟩)
             · have := HF.out k h
               exact ⟨this.1, by have := this.2; simp; omega⟩
             · have e1' := e1
               simp only [World.size_alloc] at e1'
               exact ⟨by omega, by simpa using e2⟩
           · rintro k (h | ⟨e1, e2⟩)
             · exact HRge.out k h
             · have e1' := e1
               simp only [World.size_alloc] at e1'
               omega
           · rcases hk with h | rfl
             · have := HRge.out k h
               omega
             · omega
           · rcases hk with h | rfl
             · have := HRge.out k h
               omega
             · omega)
    · obtain rfl : j = n := by omega
      go_wp2
      go_ret2
      refine ⟨_, F, rfl, HP.out.rep, HF.out, HU.out⟩
end Go.Proofs.YtbaombnnagidcaaDoor
