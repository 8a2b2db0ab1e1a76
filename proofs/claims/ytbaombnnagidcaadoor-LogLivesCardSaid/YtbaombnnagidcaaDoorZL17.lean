/- A disk of noughts: disk.New. -/
import Derived.Test.YtbaombnnagidcaaDoorZL07
import Derived.Test.YtbaombnnagidcaaDoorZL01
import Derived.Test.YtbaombnnagidcaaDoorZL16

namespace Go.Proofs.YtbaombnnagidcaaDoor
open Go.RowKit

/-- The disk, its blocks named. -/
def DParts (t : TypeId) (F R Q E : Nat → Prop) (w : World) (s : Nat) (B : List (List UInt8)) (P : List Snt) : Prop :=
  ∃ (a : Option Addr) (c : Nat) (vs : List Value) (p : Option Addr) (d : Nat) (us : List Value), F s ∧
    (∀ k, R k → F k ∧ k ≠ s ∧ k < w.heap.size) ∧ (∀ k, Q k → F k ∧ k ≠ s ∧ ¬ R k ∧ k < w.heap.size) ∧ (∀ k, E k → F k ∧ k ≠ s ∧ ¬ R k ∧ ¬ Q k ∧ k < w.heap.size) ∧
    Blk w s t #[.slice a B.length c, .slice p P.length d] ∧ Own R w 22 1 a B.length c vs ∧ Own Q w 145 2 p P.length d us ∧ All2 (Elem E w) vs B ∧ Sents E w us P
theorem DParts.rep {t : TypeId} {F R Q E : Nat → Prop} {w : World} {s : Nat} {B : List (List UInt8)} {P : List Snt} (h : DParts t F R Q E w s B P) : DRep t F w s B P := ⟨R, Q, E, h⟩

/-- an empty disk, just laid -/
theorem DParts.new {t : TypeId} {E : Nat → Prop} (w : World) (hE : ∀ k, E k → k < w.heap.size) : DParts t (fun k => E k ∨ k = w.heap.size) Nil Nil E (w.alloc (.cells #[.slice none 0 0, .slice none 0 0] t)) w.heap.size [] [] :=
  ⟨none, 0, [], none, 0, [], .inr rfl, fun _ f => f.elim, fun _ f => f.elim, fun k hk => ⟨.inl hk, by have := hE k hk; omega, fun f => f, fun f => f, by have := hE k hk; simp; omega⟩, Blk.new w t _, Own.none_ _ _ _ _, Own.none_ _ _ _ _, trivial, trivial⟩

theorem DParts.keep {t : TypeId} {F R Q E : Nat → Prop} {w w' : World} {s : Nat} {B : List (List UInt8)} {P : List Snt} (h : DParts t F R Q E w s B P) (u : Upd Nil w w') : DParts t F R Q E w' s B P := by
  obtain ⟨a, c, vs, p, d, us, h1, h3, h4, h5, h6, h7, h8, h9, h10⟩ := h
  have hz := u.size
  refine ⟨a, c, vs, p, d, us, h1, fun k hk => ?_, fun k hk => ?_, fun k hk => ?_, h6.upd u (fun f => f), h7.keep u, h8.keep u, h9.mono (fun v x h => h.keep u), h10.upd u (fun _ _ f => f)⟩
  · obtain ⟨e1, e2, e3⟩ := h3 k hk
    exact ⟨e1, e2, by omega⟩
  · obtain ⟨e1, e2, e3, e4⟩ := h4 k hk
    exact ⟨e1, e2, e3, by omega⟩
  · obtain ⟨e1, e2, e3, e4, e5⟩ := h5 k hk
    exact ⟨e1, e2, e3, e4, by omega⟩
/-- more blocks for the texts -/
theorem DParts.more {t : TypeId} {F R Q E G : Nat → Prop} {w : World} {s : Nat} {B : List (List UInt8)} {P : List Snt} (h : DParts t F R Q E w s B P) (hG : ∀ k, G k → k ≠ s ∧ ¬ R k ∧ ¬ Q k ∧ k < w.heap.size) : DParts t (fun k => F k ∨ G k) R Q (fun k => E k ∨ G k) w s B P := by
  obtain ⟨a, c, vs, p, d, us, h1, h3, h4, h5, h6, h7, h8, h9, h10⟩ := h
  refine ⟨a, c, vs, p, d, us, .inl h1, fun k hk => ⟨.inl (h3 k hk).1, (h3 k hk).2⟩, fun k hk => ⟨.inl (h4 k hk).1, (h4 k hk).2⟩, ?_, h6, h7, h8, h9.mono (fun v x h => h.mono (fun k h => .inl h)), h10.mono (fun v x h => h.mono (fun k h => .inl h))⟩
  rintro k (hk | hk)
  · exact ⟨.inl (h5 k hk).1, (h5 k hk).2⟩
  · obtain ⟨e1, e2, e3, e4⟩ := hG k hk
    exact ⟨.inr hk, e1, e2, e3, e4⟩

/-- What the last store of an append of a sector leaves. -/
theorem sect_end {t : TypeId} {F R Q E : Nat → Prop} {w w2 : World} {s : Nat} {B : List (List UInt8)} {P : List Snt} {x : List UInt8} {v : Value} {a a2 : Option Addr} {c c2 : Nat} {vs : List Value} {o : Obj}
    (h : DParts t F R Q E w s B P) (hc : w.cell? ⟨s, 0, none⟩ = some (.slice a B.length c)) (hvs : All2 (Elem E w) vs B) (hv : Elem E w v x)
    (hown2 : Own (fun k => R k ∨ Fr (w.alloc o) w2 k) w2 22 1 a2 (B.length + 1) c2 (vs ++ [v])) (hup2 : Upd R (w.alloc o) w2) :
    DParts t (fun k => F k ∨ Fr (w.alloc o) w2 k) (fun k => R k ∨ Fr (w.alloc o) w2 k) Q E (w2.setCell ⟨s, 0, none⟩ (.slice a2 (B.length + 1) c2)) s (B ++ [x]) P ∧ Upd (fun k => R k ∨ k = s) w (w2.setCell ⟨s, 0, none⟩ (.slice a2 (B.length + 1) c2)) := by
  obtain ⟨a', c', vs', p, d, us, hFs, hR, hQ, hE, hb, _, hq, _, hsent⟩ := h
  have hs := hb.lt
  have hz2 := hup2.size
  simp only [World.size_alloc] at hz2
  have hsz : (w2.setCell ⟨s, 0, none⟩ (.slice a2 (B.length + 1) c2)).heap.size = w2.heap.size := by simp
  have hRs : ¬ R s := fun h => (hR s h).2.1 rfl
  have b2 : Blk w2 s t _ := (hb.alloc o).upd hup2 hRs
  have b3 := b2.set 0 (.slice a2 (B.length + 1) c2)
  have one : Upd (One s) w2 (w2.setCell ⟨s, 0, none⟩ (.slice a2 (B.length + 1) c2)) := (Upd.refl (One s) w2).setCell (p := ⟨s, 0, none⟩) (.inl rfl) _
  have elem : ∀ v x, Elem E w v x → Elem E (w2.setCell ⟨s, 0, none⟩ (.slice a2 (B.length + 1) c2)) v x := fun v x h =>
    (((h.keep ((Upd.refl Nil w).alloc o)).upd hup2 (fun k he hr => (hE k he).2.2.1 hr)).upd one (fun k he e => (hE k he).2.1 e))
  refine ⟨⟨a2, c2, vs ++ [v], p, d, us, .inl hFs, ?_, ?_, ?_, ?_, ?_, ?_, ?_, ?_⟩, ?_⟩
  · rintro k (h | ⟨h1, h2⟩)
    · obtain ⟨e1, e2, e3⟩ := hR k h
      exact ⟨.inl e1, e2, by omega⟩
    · have h1' := h1
      simp only [World.size_alloc] at h1'
      exact ⟨.inr ⟨h1, h2⟩, by omega, by omega⟩
  · intro k h
    obtain ⟨e1, e2, e3, e4⟩ := hQ k h
    refine ⟨.inl e1, e2, ?_, by omega⟩
    rintro (r | ⟨r, _⟩)
    · exact e3 r
    · simp only [World.size_alloc] at r
      omega
  · intro k h
    obtain ⟨e1, e2, e3, e4, e5⟩ := hE k h
    refine ⟨.inl e1, e2, ?_, e4, by omega⟩
    rintro (r | ⟨r, _⟩)
    · exact e3 r
    · simp only [World.size_alloc] at r
      omega
  · simpa using b3
  · have := hown2.upd one (by
      rintro k (h | ⟨h1, h2⟩) rfl
      · exact hRs h
      · simp only [World.size_alloc] at h1
        omega)
    simpa using this
  · exact ((hq.alloc o).upd hup2 (fun k h r => (hQ k h).2.2.1 r)).upd one (fun k h e => (hQ k h).2.1 e)
  · exact (hvs.mono elem).snoc (elem _ _ hv)
  · exact hsent.mono elem
  · exact ((((Upd.refl Nil w).alloc o).ofNil (G := fun k => R k ∨ k = s)).trans hup2 (fun k h _ => .inl h)).setCell (p := ⟨s, 0, none⟩) (.inl (.inr rfl)) _

theorem disk_New_no (w : World) {n : Int} (hn : n < 1 ∨ 4096 < n) :
    Calls Tryd.prog 37 #[.int .i64 n] w fun e w' => e = .returned (.tuple #[.pointer none, .int .i64 1]) ∧ w = w' := by
  by_cases h1 : n < 1
  · clear hn
    go_enter Tryd.func37, Tryd.ntmps37
    go_wp2
    go_ret2
    exact ⟨rfl, rfl⟩
  · have h2 : 4096 < n := by omega
    clear hn
    go_enter Tryd.func37, Tryd.ntmps37
    go_wp2
    go_ret2
    exact ⟨rfl, rfl⟩

/-- a sector of noughts -/
def noughts : List UInt8 := List.replicate 128 0
theorem length_noughts : noughts.length = 128 := by simp [noughts]

/-- a new disk of sectors of noughts, in blocks of its own -/
def GotDisk (t : TypeId) (w : World) (B : List (List UInt8)) (e : Ending) (w' : World) : Prop :=
  ∃ s F, e = .returned (.tuple #[.pointer (some ⟨s, 0, none⟩), .int .i64 0]) ∧ DRep t F w' s B [] ∧ (∀ k, F k → Fr w w' k) ∧ Upd Nil w w'

set_option maxHeartbeats 1000000 in
theorem disk_New_yes (w : World) {n : Nat} (h1 : 1 ≤ n) (h2 : n ≤ 4096) :
    Calls Tryd.prog 37 #[.int .i64 n] w (GotDisk 76 w (List.replicate n noughts)) := by
  obtain ⟨i0, hi, hz0, hz1, hz2⟩ := info_parts infoBytes
  have hi0 := Lib.hid (And.intro hi (And.intro hz0 (And.intro hz1 hz2)))
  clear hi hz0 hz1 hz2
  have hmk := makeBytes (n := n * 128) (z := (n : Int) * 128) (by simp) (by omega)
  go_enter Tryd.func37, Tryd.ntmps37
  go_wp2
  obtain ⟨W0, hW0⟩ : ∃ W0, w.alloc (.cells (Array.replicate (n * 128) (Value.int .u8 0)) 5) = W0 := ⟨_, rfl⟩
  have hall : Row (One w.heap.size) W0 (some ⟨w.heap.size, 0, none⟩) (bvs (List.replicate (n * 128) 0)) := by rw [← hW0]; exact (own_zeros w (by simp only [maxLen]; omega)).row
  have hsz : W0.heap.size = w.heap.size + 1 := by rw [← hW0]; simp
  have hU0 : Upd Nil w W0 := by rw [← hW0]; exact (Upd.refl Nil w).alloc _
  rw [← hsz]
  rw [hW0]
  have HAll := Lib.hid hall
  have HSz := Lib.hid hsz
  have HU0 := Lib.hid hU0
  clear hW0 hall hsz hU0 hmk
  go_loopg [19] n (fun k i wr => ∃ j : Nat, j + k = n ∧ i = .int .i64 j ∧ ∃ R F : Nat → Prop, DParts 76 F R Nil (One w.heap.size) wr W0.heap.size (List.replicate j noughts) [] ∧ (∀ k, F k → Fr w wr k) ∧ (∀ k, R k → W0.heap.size ≤ k) ∧ Upd Nil w wr ∧ Upd Nil W0 wr)
  case atStart =>
    refine ⟨0, by omega, rfl, Nil, _, DParts.new W0 (fun k hk => by have := HSz.out; have hk' : k = w.heap.size := hk; omega), ?_, fun _ f => f.elim, HU0.out.alloc _, (Upd.refl Nil W0).alloc _⟩
    have := HSz.out
    rintro k (hk | rfl)
    · have hk' : k = w.heap.size := hk
      exact ⟨by omega, by simp; omega⟩
    · exact ⟨by omega, by simp⟩
  case round =>
    obtain ⟨j, hjk, rfl, R, F, hparts, hF, hRge, hup, hup0⟩ := hrel
    have hjn : j ≤ n := by omega
    have HJ := Lib.hid hjk
    have HP := Lib.hid hparts
    have HF := Lib.hid hF
    have HRge := Lib.hid hRge
    have HU := Lib.hid hup
    have HW := Lib.hid hup0
    clear hjk hF hup hup0 hRge
    obtain ⟨a, c, vs, p, d, us, hFs, hR, hQ, hE, hb, hown, hq, hvs, hsent⟩ := hparts
    rw [List.length_replicate] at hb hown
    have hc0 : wr.cell? ⟨W0.heap.size, 0, none⟩ = some (.slice a j c) := hb.cell 0
    have hlt0 : W0.heap.size < wr.heap.size := hb.lt
    have HB := Lib.hid hb
    have HO := Lib.hid hown
    have HV := Lib.hid hvs
    have HR := Lib.hid hR
    clear hR hQ hE hb hown hq hvs hsent hFs
    by_cases hlt : j < n
    · go_wp2
      obtain ⟨lo, hlo⟩ : ∃ lo, lo = j * 128 := ⟨_, rfl⟩
      obtain ⟨hi, hhi⟩ : ∃ hi, hi = lo + 128 := ⟨_, rfl⟩
      have hw1 : IntKind.i64.wrap ((j : Int) * 128) = (lo : Int) := by rw [IntWalk.i64_in _ (by omega)]; omega
      have hw2 : IntKind.i64.wrap ((j : Int) + 1) = (j : Int) + 1 := IntWalk.i64_in _ (by omega)
      have hw3 : IntKind.i64.wrap (((j : Int) + 1) * 128) = (hi : Int) := by rw [IntWalk.i64_in _ (by omega)]; omega
      have hb1 : (hi : Int) ≤ (n : Int) * 128 := by omega
      have hb4 : lo ≤ hi := by omega
      have hne : ¬ hi = lo := by omega
      have hsub : hi - lo = 128 := by omega
      have HLo := Lib.hid hlo
      have HHi := Lib.hid hhi
      clear hlo hhi
      go_region_law (refine step_append_Own rfl (.tmp 27) (.tmp 38) 59 rfl Tryd.underlying59 hi0.out.1 hi0.out.2.1 hi0.out.2.2.1 hi0.out.2.2.2 rfl (by decide) rfl ((HO.out.alloc _).drew) rfl ((one_row wr (.slice (some ⟨w.heap.size, lo, none⟩) 128 128) 22).drew) (by simp) (by simp [Value.oneCell']) (by intro h; cases h) (by simp only [maxLen]; omega) (by omega) ?_
                     intro a2 c2 w2 hown2 hup2 hne2
                     have hb2 := (HB.out.alloc (.cells #[.slice (some ⟨w.heap.size, lo, none⟩) 128 128] 22)).drew.upd hup2 (fun f => (HR.out _ f).2.1 rfl)
                     have HO2 := Lib.hid hown2; have HU2 := Lib.hid hup2; clear hown2 hup2 hne2
                     have he0 := hb2.cell 0; have hf0 := hb2.frozen 0
                     clear hb2)
      all_goals go_wp2
      all_goals go_roundg (gk - 1)
      all_goals first
        | (have := HJ.out; omega)
        | (have hel : Elem (One w.heap.size) wr (.slice (some ⟨w.heap.size, lo, none⟩) 128 128) noughts := by
             refine ⟨_, _, rfl, ?_, (fun h => by cases h), by rw [length_noughts]; exact Nat.le_refl _, by simp only [maxLen]; omega⟩
             have hcut : ((bvs (List.replicate (n * 128) 0)).drop lo).take 128 = bvs noughts := by
               rw [← bvs_drop, ← bvs_take, noughts, List.drop_replicate, List.take_replicate, Nat.min_eq_left]
               have := HLo.out; have := HHi.out; omega
             have hrow := ((HAll.out.keep HW.out).cut lo 128 (b := w.heap.size) (o := 0) (by rw [hcut]; intro e; have := congrArg List.length e; simp [length_noughts] at this) rfl)
             rw [hcut, Nat.zero_add] at hrow
             exact hrow
           obtain ⟨hp, hu⟩ := sect_end (o := .cells #[.slice (some ⟨w.heap.size, lo, none⟩) 128 128] 22) HP.out (by rw [List.length_replicate]; exact hc0) HV.out hel (by rw [List.length_replicate]; exact HO2.out) HU2.out.ofDrew
           rw [List.length_replicate, ← List.replicate_succ'] at hp
           rw [List.length_replicate] at hu
           have hs0 := HW.out.size
           have hs1 := HSz.out
           have hz2 := HU2.out.size
           simp only [World.drew, World.size_alloc] at hz2
           refine ⟨j + 1, by have := HJ.out; omega, by go_num, _, _, hp, ?_, ?_, HU.out.trans hu (fun k hk hlt => ?_), HW.out.trans hu (fun k hk hlt => ?_)⟩
           · rintro k (h | ⟨e1, e2⟩)
             · have := HF.out k h
               exact ⟨this.1, by have := this.2; simp; omega⟩
             · have e1' := e1
               simp only [World.size_alloc] at e1'
               exact ⟨by omega, by simpa using e2⟩
           · rintro k (h | ⟨e1, e2⟩)
             · exact HRge.out k h
             · have e1' := e1
               simp only [World.size_alloc] at e1'
               omega
           · rcases hk with h | rfl
             · have := HRge.out k h
               omega
             · omega
           · rcases hk with h | rfl
             · have := HRge.out k h
               omega
             · omega)
    · obtain rfl : j = n := by omega
      go_wp2
      go_ret2
      refine ⟨_, F, rfl, HP.out.rep, HF.out, HU.out⟩
end Go.Proofs.YtbaombnnagidcaaDoor

namespace Go.Proofs.YtbaombnnagidcaaDoor
open Go.RowKit

theorem length_recL_at {r : List UInt8} (h : r.length ≤ 2000) : (recL r).length = r.length + (if r.length < 128 then 1 else 2) := by
  rw [recL, List.length_append]
  split
  · rename_i h1
    rw [putL_small h1]
    simp only [List.length_cons, List.length_nil]
    omega
  · rename_i h1
    rw [putL_big h1, putL_small (by omega)]
    simp only [List.length_cons, List.length_nil]
    omega
theorem LFine.append {S : LogS} (h : LFine S) (r : List UInt8) : LFine (appendS S r) := by
  unfold appendS
  split
  · rename_i hc
    have h1 := h.stream
    have h2 := h.durable
    have h3 := h.forced
    have h4 := h.next
    unfold appendC at hc
    split at hc
    · cases hc
    · split at hc
      · cases hc
      · split at hc
        · cases hc
        · rename_i q1 q2 q3
          have hl := length_recL (r := r) (by omega)
          exact ⟨h.pos, h.le, by show (S.stream ++ recL r).length ≤ S.sectors * 112; rw [List.length_append]; omega, by show S.durable ≤ (S.stream ++ recL r).length; rw [List.length_append]; omega, h.first, h.first2, by show S.last + 1 ≤ _; omega, by show S.forced ≤ S.last + 1; omega, by show S.first ≤ S.last + 1 + 1; omega, fun _ => by show S.first ≤ S.last + 1; omega⟩
  · exact h
theorem readSec_noughts (i : Nat) : readSec noughts128 i = none := by
  unfold readSec
  rw [if_neg]
  rintro ⟨_, h, _⟩
  have e : numOf ((noughts128.drop 4).take 8) = 0 := by rfl
  omega
theorem openR_noughts (n : Nat) (hn : 1 ≤ n) : openR (List.replicate n noughts128) 0 n = (0, 1, []) := by
  obtain ⟨m, rfl⟩ : ∃ m, n = m + 1 := ⟨n - 1, by omega⟩
  unfold openR
  rw [openGo]
  have e : (List.replicate (m + 1) noughts128).getD (0 + 0) [] = noughts128 := by simp [List.replicate_succ]
  rw [e, readSec_noughts]
theorem splitL_nil : splitL [] = ([], 0) := by
  have h : ¬ ((textR 2000 []).2.2 = 0 ∧ (textR 2000 []).1 ≠ []) := fun h => by
    have := textR_used h.2
    simp at this
    omega
  exact splitL_no h
theorem openS_noughts (n : Nat) (hn : 1 ≤ n) : openS (List.replicate n noughts128) 0 n = { fr := 0, sectors := n, first := 1, last := 0, forced := 0, stream := [], durable := 0 } := by
  unfold openS
  rw [openR_noughts n hn, splitL_nil]
  rfl
theorem zerosL_noughts {n : Nat} : ∀ (m j : Nat), j + m ≤ n → zerosL (List.replicate n noughts128) 0 j m = []
  | 0, _, _ => rfl
  | m + 1, j, h => by
    have e : (List.replicate n noughts128).getD (0 + j) [] = noughts128 := by
      rw [Nat.zero_add, List.getD_eq_getElem?_getD, List.getElem?_replicate, if_pos (by omega)]
      rfl
    rw [zerosL, e, if_pos rfl, zerosL_noughts m (j + 1) (by omega)]
    rfl
theorem openW_noughts (n : Nat) (hn : 1 ≤ n) : openW (List.replicate n noughts128) 0 n = [] := by
  unfold openW
  rw [openS_noughts n hn, openR_noughts n hn, cleanW, lastW, if_neg (fun h => absurd h.1 (Nat.lt_irrefl 0))]
  show zerosL (List.replicate n noughts128) 0 (min 0 _) (n - min 0 _) = []
  rw [Nat.zero_min]
  exact zerosL_noughts (n - 0) 0 (by omega)
theorem fine_noughts {n : Nat} (h1 : 1 ≤ n) (h2 : n ≤ 4096) : Fine (List.replicate n noughts128) [] :=
  ⟨by rw [List.length_replicate]; exact h1, by rw [List.length_replicate]; exact h2, fun b hb => by rw [(List.mem_replicate.1 hb).2]; exact length_noughts128, fun _ h => by cases h⟩
/-- how many bytes a record's text has -/
def recN (n : Nat) : Nat := n + (if n < 128 then 1 else 2)
theorem append_may {S : LogS} {r : List UInt8} (hl : S.last < 4611686018427387904) (h1 : 0 < r.length) (h2 : r.length ≤ 2000) (h3 : recN r.length ≤ S.sectors * 112 - S.stream.length) :
    appendC S r = 0 ∧ appendN S r = S.last + 1 ∧ appendS S r = { S with stream := S.stream ++ recL r, last := S.last + 1 } := by
  have hr : (recL r).length = recN r.length := length_recL_at h2
  have hc : appendC S r = 0 := by
    unfold appendC
    rw [if_neg (by omega), if_neg (by omega), if_neg (by omega)]
  exact ⟨hc, if_pos hc, if_pos hc⟩
theorem append_not {S : LogS} {r : List UInt8} (h : r.length = 0 ∨ 2000 < r.length ∨ (r.length ≤ 2000 ∧ S.sectors * 112 - S.stream.length < recN r.length)) :
    appendC S r ≠ 0 ∧ appendN S r = 0 ∧ appendS S r = S := by
  have hc : appendC S r ≠ 0 := by
    unfold appendC
    rcases h with h | h | ⟨h, h'⟩
    · rw [if_pos h]; decide
    · by_cases q : r.length = 0
      · rw [if_pos q]; decide
      · rw [if_neg q, if_pos h]; decide
    · have hr : (recL r).length = recN r.length := length_recL_at h
      by_cases q : r.length = 0
      · rw [if_pos q]; decide
      · rw [if_neg q, if_neg (by omega), if_pos (.inl (by omega))]; decide
  exact ⟨hc, if_neg hc, if_neg hc⟩
end Go.Proofs.YtbaombnnagidcaaDoor

namespace Go.Proofs.YtbaombnnagidcaaDoor
open Go.RowKit

theorem numOf_littleL : ∀ (k n : Nat), n < 256 ^ k → numOf (littleL n k) = n
  | 0, n, h => by simp at h; subst h; rfl
  | k + 1, n, h => by
    rw [littleL, numOf, numOf_littleL k (n / 256) (by rw [Nat.pow_succ] at h; omega), toNat_ofNat8 (by omega)]
    omega
/-- a sector that was written is read -/
theorem readSec_sectorL (i : Nat) {f : Nat} {load : List UInt8} (hl : load.length ≤ 112) (h1 : 1 ≤ f) (h2 : f ≤ 4611686018427387904) : readSec (sectorL i f load) i = some (load, f) := by
  obtain ⟨L, hL⟩ : ∃ L : List UInt8, littleL i 2 = L := ⟨_, rfl⟩
  have hL2 : L.length = 2 := by rw [← hL]; exact length_littleL i 2
  obtain ⟨M, hM⟩ : ∃ M, littleL f 8 = M := ⟨_, rfl⟩
  have hM8 : M.length = 8 := by rw [← hM]; exact length_littleL f 8
  obtain ⟨R, hR⟩ : ∃ R, List.replicate (124 - ([76, UInt8.ofNat load.length] ++ L ++ M ++ load).length) (0 : UInt8) ++ fourL (sumL (headL i f load)) = R := ⟨_, rfl⟩
  have e : sectorL i f load = 76 :: UInt8.ofNat load.length :: (L ++ (M ++ (load ++ R))) := by
    rw [← hR, ← hM, ← hL, sectorL]
    simp [headL, padL, List.append_assoc]
  have e1 : (sectorL i f load).getD 1 0 = UInt8.ofNat load.length := by rw [e]; rfl
  have e2 : ((sectorL i f load).drop 4).take 8 = M := by
    rw [e]
    show ((L ++ (M ++ (load ++ R))).drop 2).take 8 = M
    rw [List.drop_left' hL2, List.take_left' hM8]
  have e3 : (sectorL i f load).drop 12 = load ++ R := by
    rw [e]
    show (L ++ (M ++ (load ++ R))).drop 10 = _
    rw [← List.append_assoc, List.drop_left' (by rw [List.length_append]; omega)]
  have e4 : numOf M = f := by rw [← hM]; exact numOf_littleL 8 f (by omega)
  have e5 : (UInt8.ofNat load.length).toNat = load.length := toNat_ofNat8 (by omega)
  unfold readSec
  rw [e1, e2, e3, e4, e5, List.take_left, if_pos ⟨hl, h1, h2, rfl⟩]

/-- what stands in a sector behind writes -/
theorem applyP_at {i : Nat} : ∀ (l : List Snt) (B : List (List UInt8)), i < B.length → (∃ p ∈ l, p.1 = i ∧ (applyP B l).getD i [] = p.2) ∨ ((∀ p ∈ l, p.1 ≠ i) ∧ (applyP B l).getD i [] = B.getD i [])
  | [], B, _ => .inr ⟨(fun p h => by cases h), rfl⟩
  | q :: l, B, hi => by
    have ih := applyP_at l (B.set q.1 q.2) (by rw [List.length_set]; exact hi)
    rw [show applyP B (q :: l) = applyP (B.set q.1 q.2) l from rfl]
    rcases ih with ⟨p, hp, h1, h2⟩ | ⟨h1, h2⟩
    · exact .inl ⟨p, List.mem_cons_of_mem _ hp, h1, h2⟩
    · by_cases hq : q.1 = i
      · refine .inl ⟨q, List.mem_cons_self, hq, ?_⟩
        rw [h2, List.getD_eq_getElem?_getD, hq, List.getElem?_set_self hi]
        rfl
      · refine .inr ⟨fun p hp => ?_, ?_⟩
        · rcases List.mem_cons.1 hp with rfl | hp
          · exact hq
          · exact h1 p hp
        · rw [h2, List.getD_eq_getElem?_getD, List.getElem?_set_ne hq, ← List.getD_eq_getElem?_getD]

/-- no sector behind the first has a number above so many -/
def NoStale (B : List (List UInt8)) (last : Nat) : Prop := ∀ i, 1 ≤ i → i < B.length → ∀ load f, readSec (B.getD i []) i = some (load, f) → f ≤ last
theorem NoStale.apply {B : List (List UInt8)} {last last' : Nat} (h : NoStale B last) (hl : last ≤ last') {l : List Snt} (hp : ∀ p ∈ l, 1 ≤ p.1 → ∀ load f, readSec p.2 p.1 = some (load, f) → f ≤ last') : NoStale (applyP B l) last' := by
  intro i h1 h2 load f hr
  rw [length_applyP] at h2
  rcases applyP_at l B h2 with ⟨p, hpl, rfl, e⟩ | ⟨_, e⟩
  · rw [e] at hr
    exact hp p hpl h1 load f hr
  · rw [e] at hr
    exact Nat.le_trans (h i h1 h2 load f hr) hl

theorem forceL_mem {fr first : Nat} {s : List UInt8} {j : Nat} : ∀ {m : Nat} {p : Snt}, p ∈ forceL fr first s j m → ∃ k, j ≤ k ∧ k < j + m ∧ p = (fr + k, sectorL k first (chunkL s k))
  | 0, _, h => by cases h
  | m + 1, p, h => by
    rw [forceL] at h
    rcases List.mem_append.1 h with h | h
    · obtain ⟨k, h1, h2, h3⟩ := forceL_mem h
      exact ⟨k, h1, by omega, h3⟩
    · exact ⟨j + m, by omega, by omega, List.mem_singleton.1 h⟩
theorem forceL_has {fr first : Nat} {s : List UInt8} {j : Nat} : ∀ {m k : Nat}, j ≤ k → k < j + m → (fr + k, sectorL k first (chunkL s k)) ∈ forceL fr first s j m
  | 0, _, _, _ => by omega
  | m + 1, k, h1, h2 => by
    rw [forceL]
    rcases Nat.lt_or_ge k (j + m) with h | h
    · exact List.mem_append_left _ (forceL_has h1 h)
    · rw [show k = j + m by omega]
      exact List.mem_append_right _ List.mem_cons_self
/-- Force lays no sector with a number above the last -/
theorem NoStale.force {B : List (List UInt8)} {S : LogS} (h : NoStale B S.last) (hf : LFine S) (h0 : S.fr = 0) : NoStale (applyP B (forceN S)) S.last := by
  refine h.apply (Nat.le_refl _) (fun p hp h1 load f hr => ?_)
  unfold forceN at hp
  split at hp
  · cases hp
  · obtain ⟨k, hk1, hk2, rfl⟩ := forceL_mem hp
    have hs : S.stream ≠ [] := by
      rintro e
      rw [e, List.length_nil] at hk2
      omega
    dsimp only at hr
    rw [h0, Nat.zero_add, readSec_sectorL k (length_chunkL _ _) hf.first hf.first2] at hr
    injection hr with hr
    injection hr with _ hr
    subst hr
    exact hf.some hs
theorem NoStale.reset {B : List (List UInt8)} {S : LogS} (h : NoStale B S.last) (h0 : S.fr = 0) : NoStale (applyP B (resetN S)) (resetS S).last := by
  have e : (resetS S).last = S.last := by unfold resetS; split <;> rfl
  rw [e]
  refine h.apply (Nat.le_refl _) (fun p hp h1 load f hr => ?_)
  unfold resetN at hp
  split at hp
  · cases hp
  · rw [List.mem_singleton.1 hp] at h1
    dsimp only at h1
    omega
theorem NoStale.append {B : List (List UInt8)} {S : LogS} (h : NoStale B S.last) (r : List UInt8) : NoStale B (appendS S r).last := by
  unfold appendS
  split
  · exact fun i h1 h2 load f hr => Nat.le_succ_of_le (h i h1 h2 load f hr)
  · exact h
theorem LFine.force {S : LogS} (h : LFine S) : LFine (forceS S) := by
  unfold forceS
  split
  · exact h
  · exact ⟨h.pos, h.le, h.stream, Nat.le_refl _, h.first, h.first2, h.last, Nat.le_refl _, h.next, h.some⟩
theorem LFine.reset {S : LogS} (h : LFine S) : LFine (resetS S) := by
  unfold resetS
  split
  · exact h
  · exact ⟨h.pos, h.le, Nat.zero_le _, Nat.le_refl _, by show 1 ≤ S.last + 1; omega, by show S.last + 1 ≤ _; omega, h.last, Nat.le_refl _, Nat.le_refl _, fun q => absurd rfl q⟩

/-- the sectors that Open used are right, of its number -/
theorem openGo_used (rd : Nat → List UInt8) : ∀ (m j first : Nat) (s : List UInt8), ∀ i, j ≤ i → i < (openGo rd m j first s).1 → 1 ≤ i → (j = 0 ∨ True) → ∃ load, readSec (rd i) i = some (load, (openGo rd m j first s).2.1)
  | 0, j, first, s, i, h1, h2, _, _ => by rw [openGo] at h2; dsimp only at h2; omega
  | m + 1, j, first, s, i, h1, h2, h3, _ => by
    rw [openGo] at h2 ⊢
    split at h2
    · dsimp only at h2; omega
    · rename_i load f hr
      split at h2
      · dsimp only at h2; omega
      · rename_i hb
        split at h2
        · rename_i hlt
          dsimp only at h2
          rw [if_neg hb, if_pos hlt]
          rw [show i = j by omega]
          exact ⟨load, hr⟩
        · rename_i hlt
          rw [if_neg hb, if_neg hlt]
          rcases Nat.eq_or_lt_of_le h1 with rfl | h1
          · obtain ⟨f', hf'⟩ : ∃ f', (openGo rd m (j + 1) f (s ++ load)).2.1 = f' := ⟨_, rfl⟩
            have : f' = f := by rw [← hf']; exact openGo_first rd m (j + 1) f (s ++ load) (by omega)
            rw [hf', this]
            exact ⟨load, hr⟩
          · exact openGo_used rd m (j + 1) f (s ++ load) i h1 h2 h3 (.inr trivial)
where openGo_first (rd : Nat → List UInt8) : ∀ (m j first : Nat) (s : List UInt8), 0 < j → (openGo rd m j first s).2.1 = first
  | 0, _, _, _, _ => rfl
  | m + 1, j, first, s, h => by
    rw [openGo]
    split
    · rfl
    · rename_i load f hr
      split
      · rfl
      · rename_i hb
        have hf : f = first := by
          rcases Nat.decEq f first with q | q
          · exact absurd ⟨h, q⟩ hb
          · exact q
        subst hf
        split
        · rfl
        · exact openGo_first rd m (j + 1) f (s ++ load) (by omega)

theorem zerosL_not {B : List (List UInt8)} {fr : Nat} : ∀ {m j i : Nat}, j ≤ i → i < j + m → (∀ p ∈ zerosL B fr j m, p.1 ≠ fr + i) → B.getD (fr + i) [] = noughts128
  | 0, j, i, h1, h2, _ => by omega
  | m + 1, j, i, h1, h2, h => by
    rw [zerosL] at h
    rcases Nat.eq_or_lt_of_le h1 with rfl | h1
    · by_cases q : B.getD (fr + j) [] = noughts128
      · exact q
      · exact absurd rfl (h (fr + j, noughts128) (List.mem_append_left _ (by rw [if_neg q]; exact List.mem_cons_self)))
    · exact zerosL_not h1 (by omega) (fun p hp => h p (List.mem_append_right _ hp))
theorem zerosL_val {B : List (List UInt8)} {fr : Nat} : ∀ {m j : Nat} {p : Snt}, p ∈ zerosL B fr j m → p.2 = noughts128
  | 0, _, _, h => by cases h
  | m + 1, j, p, h => by
    rw [zerosL] at h
    rcases List.mem_append.1 h with h | h
    · split at h
      · cases h
      · rw [List.mem_singleton.1 h]
    · exact zerosL_val h

theorem openR_facts (B : List (List UInt8)) (fr n : Nat) : (openR B fr n).2.2.length ≤ (openR B fr n).1 * 112 ∧ (openR B fr n).1 ≤ n ∧ 1 ≤ (openR B fr n).2.1 ∧ (openR B fr n).2.1 ≤ 4611686018427387904 := by
  have := openGo_facts (fun j => B.getD (fr + j) []) n 0 1 [] (Nat.le_refl _) (Nat.le_refl _) (by decide)
  rw [Nat.zero_add] at this
  exact this
theorem splitL_some {l : List UInt8} (h : (splitL l).2 ≠ 0) : 1 ≤ (splitL l).1.length := by
  by_cases q : (textR 2000 l).2.2 = 0 ∧ (textR 2000 l).1 ≠ []
  · rw [splitL_yes q.1 q.2]
    exact Nat.succ_le_succ (Nat.zero_le _)
  · rw [splitL_no q] at h
    exact absurd rfl h
theorem openS_fine {B : List (List UInt8)} {fr n : Nat} (h1 : 1 ≤ n) (h2 : fr + n ≤ 4096) : LFine (openS B fr n) := by
  obtain ⟨f1, f2, f3, f4⟩ := openR_facts B fr n
  obtain ⟨g1, g2⟩ := splitL_facts _ (openR B fr n).2.2 (Nat.le_refl _)
  have hm : (openR B fr n).1 * 112 ≤ n * 112 := Nat.mul_le_mul_right _ f2
  have hl : ((openR B fr n).2.2.take (splitL (openR B fr n).2.2).2).length = (splitL (openR B fr n).2.2).2 := by rw [List.length_take]; omega
  refine ⟨h1, h2, ?_, ?_, f3, f4, ?_, Nat.le_refl _, ?_, fun h => ?_⟩
  · show ((openR B fr n).2.2.take (splitL (openR B fr n).2.2).2).length ≤ n * 112
    rw [hl]; omega
  · show (splitL (openR B fr n).2.2).2 ≤ ((openR B fr n).2.2.take (splitL (openR B fr n).2.2).2).length
    rw [hl]; exact Nat.le_refl _
  · show (openR B fr n).2.1 + (splitL (openR B fr n).2.2).1.length - 1 ≤ _
    omega
  · show (openR B fr n).2.1 ≤ (openR B fr n).2.1 + (splitL (openR B fr n).2.2).1.length - 1 + 1
    omega
  · have h' : (openR B fr n).2.2.take (splitL (openR B fr n).2.2).2 ≠ [] := h
    have : (splitL (openR B fr n).2.2).2 ≠ 0 := fun q => h' (by rw [q]; rfl)
    have := splitL_some this
    show (openR B fr n).2.1 ≤ (openR B fr n).2.1 + (splitL (openR B fr n).2.2).1.length - 1
    omega
/-- Open leaves no sector with a number above the last -/
theorem NoStale.opened {B : List (List UInt8)} {n : Nat} (hn : B.length = n) : NoStale (applyP B (openW B 0 n)) (openS B 0 n).last := by
  obtain ⟨f1, f2, f3, f4⟩ := openR_facts B 0 n
  obtain ⟨g1, g2⟩ := splitL_facts _ (openR B 0 n).2.2 (Nat.le_refl _)
  intro i h1 h2 load f hr
  rw [length_applyP] at h2
  have hsome : (openS B 0 n).durable ≠ 0 → (openR B 0 n).2.1 ≤ (openS B 0 n).last := fun h => by
    have := splitL_some (l := (openR B 0 n).2.2) h
    show (openR B 0 n).2.1 ≤ (openR B 0 n).2.1 + (splitL (openR B 0 n).2.2).1.length - 1
    omega
  have hd : (openS B 0 n).durable ≤ (openR B 0 n).2.2.length := g1
  have hdl : (openS B 0 n).stream.length = (openS B 0 n).durable := by
    show ((openR B 0 n).2.2.take (splitL (openR B 0 n).2.2).2).length = (splitL (openR B 0 n).2.2).2
    rw [List.length_take]
    omega
  rcases applyP_at (openW B 0 n) B h2 with ⟨p, hp, rfl, e⟩ | ⟨hno, e⟩
  · rw [e] at hr
    unfold openW cleanW at hp
    rcases List.mem_append.1 hp with hp | hp
    · unfold lastW at hp
      split at hp
      · rename_i hc
        have ep := List.mem_singleton.1 hp
        have e0 : p.1 = ((openS B 0 n).durable - 1) / 112 := by rw [ep]; exact Nat.zero_add _
        have e2 : p.2 = sectorL (((openS B 0 n).durable - 1) / 112) (openS B 0 n).first ((openS B 0 n).stream.drop (((openS B 0 n).durable - 1) / 112 * 112)) := by rw [ep]
        rw [e0, e2, readSec_sectorL (f := (openS B 0 n).first) _ (by rw [List.length_drop]; omega) f3 f4] at hr
        injection hr with hr
        injection hr with _ hr
        rw [← hr]
        exact hsome (by omega)
      · cases hp
    · rw [zerosL_val hp, readSec_noughts] at hr
      cases hr
  · rw [e] at hr
    by_cases hk : i < min (openR B 0 n).1 (((openS B 0 n).durable - 1) / 112 + 1)
    · obtain ⟨load', hl'⟩ := openGo_used (fun j => B.getD (0 + j) []) n 0 1 [] i (Nat.zero_le _) (show i < (openR B 0 n).1 by omega) h1 (.inl rfl)
      rw [Nat.zero_add, hr] at hl'
      injection hl' with hl'
      injection hl' with _ hl'
      rw [hl']
      exact hsome (by omega)
    · have := zerosL_not (B := B) (fr := 0) (j := min (openR B 0 n).1 (((openS B 0 n).durable - 1) / 112 + 1)) (m := (openS B 0 n).sectors - min (openR B 0 n).1 (((openS B 0 n).durable - 1) / 112 + 1)) (i := i) (by omega) (by show i < _ + (n - _); omega) (fun p hp => by
        rw [Nat.zero_add]
        exact hno p (List.mem_append_right _ hp))
      rw [Nat.zero_add] at this
      rw [this, readSec_noughts] at hr
      cases hr

/-- what Open finds of a stream that was laid in chunks -/
theorem openGo_chunks {rd : Nat → List UInt8} {f m : Nat} {s : List UInt8} (h1 : 1 ≤ f) (h2 : f ≤ 4611686018427387904) (hlo : (m - 1) * 112 < s.length) (hhi : s.length ≤ m * 112) (hrd : ∀ j, j < m → rd j = sectorL j f (chunkL s j)) :
    ∀ (k j first : Nat), m ≤ j + k → j ≤ m → (0 < j → first = f) → (j = m → s.length = m * 112) → (s.length = m * 112 → m < j + k → ∀ load g, readSec (rd m) m = some (load, g) → g ≠ f) → openGo rd k j first (s.take (j * 112)) = (m, f, s)
  | 0, j, first, hk, hj, hfi, hend, _ => by
    have hm : j = m := by omega
    have := hend hm
    have hs : 0 < s.length := by omega
    rw [openGo, hfi (by omega), hm, List.take_of_length_le (by omega)]
  | k + 1, j, first, hk, hj, hfi, hend, hst => by
    by_cases hm : j = m
    · have he := hend hm
      have hf : first = f := hfi (by omega)
      rw [hm, List.take_of_length_le (by omega), openGo]
      split
      · rw [hf]
      · rename_i load g hr
        rw [if_pos ⟨by omega, by rw [hf]; exact hst he (by omega) load g hr⟩, hf]
    · have hr : readSec (rd j) j = some (chunkL s j, f) := by rw [hrd j (by omega)]; exact readSec_sectorL j (length_chunkL _ _) h1 h2
      have hcl : (chunkL s j).length = min 112 (s.length - j * 112) := by rw [chunkL, List.length_take, List.length_drop]
      have hap : s.take (j * 112) ++ chunkL s j = s.take ((j + 1) * 112) := by
        rw [chunkL, Nat.add_mul, Nat.one_mul, List.take_add]
      rw [openGo, hr]
      dsimp only
      rw [if_neg (fun q => q.2 (hfi q.1).symm), hap]
      split
      · rename_i hlt
        rw [hcl] at hlt
        have : j + 1 = m := by omega
        rw [this, List.take_of_length_le hhi]
      · rename_i hlt
        rw [hcl] at hlt
        exact openGo_chunks h1 h2 hlo hhi hrd k (j + 1) f (by omega) (by omega) (fun _ => rfl) (by omega) (fun q1 q2 => hst q1 (by omega))
theorem textR_recL {r : List UInt8} (h : r.length ≤ 2000) : textR 2000 (recL r) = (r, (recL r).length, 0) := by
  rw [textR, recL, scanL_put (by omega)]
  dsimp only
  rw [if_neg (by decide), if_neg (by omega), List.drop_left, if_neg (by rw [List.length_append]; omega), List.take_of_length_le (Nat.le_refl _), List.length_append]
theorem splitL_recL {r : List UInt8} (h0 : r ≠ []) (h : r.length ≤ 2000) : splitL (recL r) = ([r], (recL r).length) := by
  rw [splitL_yes (by rw [textR_recL h]) (by rw [textR_recL h]; exact h0), textR_recL h]
  dsimp only
  rw [List.drop_of_length_le (Nat.le_refl _), splitL_nil]
  rfl

/-- behind Reset the disk's log has no record -/
theorem openR_reset {B : List (List UInt8)} {S : LogS} (hf : LFine S) (h0 : S.fr = 0) (hn : S.sectors = B.length) (hl : S.last < 4611686018427387904) : openR (applyP B (resetN S)) 0 B.length = (1, S.last + 1, []) := by
  have hp := hf.pos
  have e : applyP B (resetN S) = B.set 0 (sectorL 0 (S.last + 1) []) := by
    unfold resetN
    rw [if_neg (by omega), h0]
    rfl
  obtain ⟨m, hm⟩ : ∃ m, B.length = m + 1 := ⟨B.length - 1, by omega⟩
  rw [e, hm, openR, openGo]
  have e2 : (B.set 0 (sectorL 0 (S.last + 1) [])).getD (0 + 0) [] = sectorL 0 (S.last + 1) [] := by
    rw [Nat.zero_add, List.getD_eq_getElem?_getD, List.getElem?_set_self (by omega)]
    rfl
  rw [e2, readSec_sectorL 0 (Nat.zero_le _) (by omega) (by omega)]
  rfl
/-- behind Reset, Append and Force it has that one -/
theorem openR_force {B : List (List UInt8)} {S : LogS} {r : List UInt8} (hf : LFine S) (h0 : S.fr = 0) (hn : S.sectors = B.length) (hd : S.durable = 0) (hne : S.forced ≠ S.last) (hs : S.stream = recL r) (hst : NoStale B (S.first - 1)) :
    (openR (applyP B (forceN S)) 0 B.length).2.2 = recL r := by
  have hp := hf.pos
  have hlen := hf.stream
  have hfi := hf.first
  have hrl : 1 ≤ (recL r).length := by have := length_putL_pos r.length; rw [recL, List.length_append]; omega
  rw [hs] at hlen
  obtain ⟨m, hm⟩ : ∃ m, ((recL r).length + 111) / 112 = m := ⟨_, rfl⟩
  have e : forceN S = forceL 0 S.first (recL r) 0 m := by
    unfold forceN
    rw [if_neg hne, h0, hs, hd, Nat.zero_div, hm, Nat.sub_zero]
  rw [e]
  have hat : ∀ j, j < m → (applyP B (forceL 0 S.first (recL r) 0 m)).getD (0 + j) [] = sectorL j S.first (chunkL (recL r) j) := fun j hj => by
    rw [Nat.zero_add]
    rcases applyP_at (i := j) (forceL 0 S.first (recL r) 0 m) B (by omega) with ⟨p, hp, h1, h2⟩ | ⟨h1, _⟩
    · obtain ⟨k, _, _, rfl⟩ := forceL_mem hp
      have : k = j := by dsimp only at h1; omega
      subst this
      exact h2
    · exact absurd (Nat.zero_add j) (h1 _ (forceL_has (fr := 0) (Nat.zero_le _) (by omega)))
  have hgo := openGo_chunks (rd := fun j => (applyP B (forceL 0 S.first (recL r) 0 m)).getD (0 + j) []) (f := S.first) (m := m) (s := recL r) hfi hf.first2 (by omega) (by omega) hat B.length 0 1 (by omega) (Nat.zero_le _) (fun h => absurd h (Nat.lt_irrefl 0)) (by omega) (fun q1 q2 load g hr => by
    rw [Nat.zero_add] at hr
    rcases applyP_at (i := m) (forceL 0 S.first (recL r) 0 m) B (by omega) with ⟨p, hp, h1, h2⟩ | ⟨_, h2⟩
    · obtain ⟨k, _, _, rfl⟩ := forceL_mem hp
      dsimp only at h1
      omega
    · rw [h2] at hr
      have := hst m (by omega) (by omega) load g hr
      omega)
  rw [Nat.zero_mul, List.take_zero] at hgo
  rw [openR, hgo]
end Go.Proofs.YtbaombnnagidcaaDoor
