/- The disk's methods: Flush, Crash, Copy. -/
import Derived.Test.YtbaombnnagidcaaDoorDisk2
import Derived.Test.YtbaombnnagidcaaDoorMake
namespace Go.Proofs.YtbaombnnagidcaaDoor
open Go.RowKit

/-! ### what a list of writes makes of the sectors -/
def applyP (B : List (List UInt8)) (l : List Snt) : List (List UInt8) := l.foldl (fun B p => B.set p.1 p.2) B
theorem applyP_snoc (B : List (List UInt8)) (l : List Snt) (p : Snt) : applyP B (l ++ [p]) = (applyP B l).set p.1 p.2 := by simp [applyP]
theorem length_applyP (B : List (List UInt8)) (l : List Snt) : (applyP B l).length = B.length := by
  induction l generalizing B with
  | nil => rfl
  | cons p l ih => rw [show applyP B (p :: l) = applyP (B.set p.1 p.2) l from rfl, ih, List.length_set]

/-- the store 'd.pending = nil' -/
theorem clear_end {t : TypeId} {F : Nat → Prop} {w : World} {s : Nat} {B : List (List UInt8)} {P : List Snt} (h : DRep t F w s B P) : DRep t F (w.setCell ⟨s, 1, none⟩ (.slice none 0 0)) s B [] := by
  obtain ⟨R, Q, E, a, c, vs, p, d, us, hFs, hR, hQ, hE, hb, hr, hq, hall, hsent⟩ := h
  have hsz : (w.setCell ⟨s, 1, none⟩ (.slice none 0 0)).heap.size = w.heap.size := by simp
  have one : Upd (One s) w (w.setCell ⟨s, 1, none⟩ (.slice none 0 0)) := (Upd.refl (One s) w).setCell (p := ⟨s, 1, none⟩) (.inl rfl) _
  refine ⟨R, Q, E, a, c, vs, none, 0, [], hFs, fun k hk => ?_, fun k hk => ?_, fun k hk => ?_, ?_, hr.upd one (fun k hk e => (hR k hk).2.1 e), Own.none_ _ _ _ _, hall.mono (fun v x h => h.upd one (fun k hk e => (hE k hk).2.1 e)), trivial⟩
  · rw [hsz]; exact hR k hk
  · rw [hsz]; exact hQ k hk
  · rw [hsz]; exact hE k hk
  · have := hb.set 1 (.slice none 0 0)
    simpa using this

set_option maxHeartbeats 1000000 in
theorem disk_Flush {F : Nat → Prop} (w : World) {s : Nat} {B : List (List UInt8)} {P : List Snt} (h : DiskRep F w s B P) (hf : Fine B P) (hP : P.length ≤ 4000000000000) :
    Calls Tryd.prog 78 #[.pointer (some ⟨s, 0, none⟩)] w (DGot 76 F w s (.int .i64 0) (applyP B P) []) := by
  have H0 := Lib.hid (disk_Sectors w h)
  have hne : ((B.length : Int) == 0) = false := by rw [beq_eq_false_iff_ne]; have := hf.pos; omega
  have hF0 := Lib.hid hf
  have HRep := Lib.hid h
  obtain ⟨R, Q, E, a, c, vs, p, d, us, hFs, hR, hQ, hE, hb, hr, hq, hall, hsent⟩ := h
  have hc1 : w.cell? ⟨s, 1, none⟩ = some (.slice p P.length d) := hb.cell 1
  have HC1 := Lib.hid hc1
  clear hR hQ hE hb hr hq hall hsent hf
  go_enter Tryd.func78, Tryd.ntmps78
  go_wp2_with (go_at_call 39; refine H0.out.mono ?_; rintro e w' ⟨rfl, rfl⟩)
  go_loopg [13] P.length (fun k i wr => ∃ j : Nat, j + k = P.length ∧ i = .int .i64 j ∧ ∃ F', DiskRep F' wr s (applyP B (P.take j)) P ∧ wr.cell? ⟨s, 1, none⟩ = some (.slice p P.length d) ∧ Upd F w wr ∧ ∀ k, F' k → F k ∨ Fr w wr k)
  case atStart => exact ⟨0, by omega, rfl, F, HRep.out, hc1, Upd.refl _ _, fun _ h => .inl h⟩
  case round =>
    obtain ⟨j, hjk, rfl, F', hrep, hcp, hup, hF'⟩ := hrel
    have hjn : j ≤ P.length := by omega
    have HJ := Lib.hid hjk
    have HR := Lib.hid hrep
    have HCp := Lib.hid hcp
    have HU := Lib.hid hup
    have HF := Lib.hid hF'
    clear hjk hrep hup hF'
    by_cases hlt : j < P.length
    · have hsent := hF0.out.sent _ (List.getElem_mem hlt)
      have htk := List.take_succ_eq_append_getElem hlt
      obtain ⟨R', Q', E', a', c', vs', p', d', us', _, _, _, _, hb', _, hq', _, hs'⟩ := HR.out
      have e1 : wr.cell? ⟨s, 1, none⟩ = some (.slice p' P.length d') := hb'.cell 1
      rw [hcp] at e1
      injection e1 with e1
      injection e1 with e1 _ e3
      subst e1; subst e3
      obtain ⟨b, v, rfl, _, hcA, hcB, hel⟩ := sentAt hq' hs' hlt
      obtain ⟨⟨i, xs⟩, hij⟩ : ∃ q, P[j] = q := ⟨_, rfl⟩
      rw [hij] at hsent htk hcA hel
      have hv1 : ∃ ax cx, v = .slice ax xs.length cx := by obtain ⟨ax, cx, e, _⟩ := hel; exact ⟨ax, cx, e⟩
      obtain ⟨ax, cx, rfl⟩ := hv1
      have HEl := Lib.hid hel
      have HTk := Lib.hid htk
      have HSe := Lib.hid hsent
      clear hb' hq' hs' hel htk hsent hij
      go_wp2
      obtain ⟨W1, hW1⟩ : ∃ W1, wr.alloc (.cells #[.int .i64 i, .slice ax xs.length cx] 145) = W1 := ⟨_, rfl⟩
      have hU1 : Upd Nil wr W1 := by rw [← hW1]; exact (Upd.refl Nil wr).alloc _
      have hB1 : Blk W1 wr.heap.size 145 #[.int .i64 i, .slice ax xs.length cx] := by rw [← hW1]; exact Blk.new wr _ _
      have hy0 : W1.cell? ⟨wr.heap.size, 0, none⟩ = some (.int .i64 i) := hB1.cell 0
      have hy1 : W1.cell? ⟨wr.heap.size, 1, none⟩ = some (.slice ax xs.length cx) := hB1.cell 1
      have HUW := Lib.hid hU1
      rw [hW1]
      clear hU1 hB1 hW1
      go_region_law (go_simp; go_at_call 103; refine (disk_take _ (HR.out.upd HUW.out.drew (fun _ _ f => f)) (i := i) (by rw [length_applyP]; exact HSe.out.1) ((HEl.out.keep HUW.out.drew)) HSe.out.2).mono ?_; rintro e w2 ⟨⟨rfl, F2, hb2, hu2, hF2⟩, hc2⟩
                     have hu2 := hu2.ofDrew
                     have hF2 : ∀ k, F2 k → F' k ∨ Fr W1 w2 k := hF2
                     have HB2 := Lib.hid hb2; have HU2 := Lib.hid hu2; have HF2 := Lib.hid hF2; have HC2 := Lib.hid hc2; clear hb2 hu2 hF2 hc2)
      all_goals go_wp2
      all_goals go_roundg (gk - 1)
      all_goals first
        | (have := HJ.out; omega)
        | (have hz1 := HUW.out.size
           have hz2 := HU2.out.size
           refine ⟨j + 1, by have := HJ.out; omega, by go_num, F2, ?_, ?_, ?_, ?_⟩
           · rw [HTk.out, applyP_snoc]
             exact HB2.out
           · rw [HC2.out]
             exact HUW.out.cell HCp.out (fun f => f)
           · refine (HU.out.trans HUW.out (fun _ f _ => f.elim)).trans HU2.out (fun k hk hlt => ?_)
             rcases HF.out k hk with h | h
             · exact h
             · have := h.1
               omega
           · intro k hk
             rcases HF2.out k hk with h | h
             · rcases HF.out k h with h | h
               · exact .inl h
               · exact .inr ⟨h.1, by have := h.2; omega⟩
             · have hz0 := HU.out.size
               exact .inr ⟨by have := h.1; omega, h.2⟩)
    · obtain rfl : j = P.length := by omega
      have hr := HR.out
      rw [List.take_length] at hr
      have hcs := hcp
      obtain ⟨_, _, _, _, _, _, _, _, _, _, _, _, _, hb', _⟩ := HR.out
      have hf0 := hb'.frozen 1
      clear hb'
      have HR2 := Lib.hid hr
      clear hr
      go_wp2
      go_ret
      exact ⟨rfl, F', clear_end HR2.out, HU.out.setCell (p := ⟨s, 1, none⟩) (.inl hFs) _, fun k hk => by rcases HF.out k hk with h | h; exact .inl h; exact .inr ⟨h.1, by simpa using h.2⟩⟩

/-! ### Crash -/
/-- the places that are kept, marked one by one; none: one is no place, or comes twice -/
def mark : List Bool → List Int → Option (List Bool)
  | st, [] => some st
  | st, k :: ks => if k < 0 ∨ (st.length : Int) ≤ k ∨ st[k.toNat]? = some true then none else mark (st.set k.toNat true) ks
theorem mark_append : ∀ (st : List Bool) (a b : List Int), mark st (a ++ b) = (mark st a).bind (fun s => mark s b)
  | _, [], _ => rfl
  | st, k :: a, b => by
    simp only [List.cons_append, mark]
    split
    · rfl
    · exact mark_append _ a b
theorem mark_length : ∀ {st st' : List Bool} {ks : List Int}, mark st ks = some st' → st'.length = st.length
  | st, st', [], h => by simp only [mark, Option.some.injEq] at h; rw [h]
  | st, st', k :: ks, h => by
    simp only [mark] at h
    split at h
    · cases h
    · rw [mark_length h, List.length_set]
/-- the writes at the marked places -/
def kept : List Bool → List Snt → List Snt
  | b :: st, p :: l => if b then p :: kept st l else kept st l
  | _, _ => []
theorem kept_snoc : ∀ {st : List Bool} {l : List Snt} (j : Nat) (hs : j < st.length) (hl : j < l.length), kept (st.take (j + 1)) (l.take (j + 1)) = kept (st.take j) (l.take j) ++ (if st[j] then [l[j]] else [])
  | b :: st, p :: l, 0, _, _ => by cases b <;> simp [kept]
  | b :: st, p :: l, j + 1, hs, hl => by
    have := kept_snoc (st := st) (l := l) j (by simpa using hs) (by simpa using hl)
    cases b
    · simp only [List.take_succ_cons, kept, Bool.false_eq_true, if_false, List.getElem_cons_succ, this]
    · simp only [List.take_succ_cons, kept, if_true, List.getElem_cons_succ, this, List.cons_append]
  | [], _, _, hs, _ => by simp at hs
  | _ :: _, [], _, _, hl => by simp at hl

def ivs (ks : List Int) : List Value := ks.map (fun k => .int .i64 k)
@[simp] theorem length_ivs (ks : List Int) : (ivs ks).length = ks.length := by simp [ivs]
def bls (st : List Bool) : List Value := st.map .bool
@[simp] theorem length_bls (st : List Bool) : (bls st).length = st.length := by simp [bls]
theorem bls_get {st : List Bool} {i : Nat} (h : i < st.length) : (bls st)[i]? = some (.bool st[i]) := by simp [bls, h]
theorem bls_set (st : List Bool) (i : Nat) (b : Bool) : (bls st).set i (.bool b) = bls (st.set i b) := by simp [bls, List.map_set]
theorem own_falses (w : World) {n : Nat} (hn : n ≤ maxLen) : Own (One w.heap.size) (w.alloc (.cells (Array.replicate n (Value.bool false)) 4)) 4 1 (some ⟨w.heap.size, 0, none⟩) n n (bls (List.replicate n false)) := by
  have := Own.lit (t := 4) (sz := 1) w (Array.replicate n (Value.bool false)) n hn (by simp)
  simpa [bls] using this
/-- a cell of a row of one's own -/
theorem Own.cellAt {F : Nat → Prop} {w : World} {t : TypeId} {g n c : Nat} {cs : List Value} (h : Own F w t 1 (some ⟨g, 0, none⟩) n c cs) {i : Nat} {v : Value} (hv : cs[i]? = some v) : w.cell? ⟨g, i, none⟩ = some v := by
  obtain ⟨b, o, e, _, hc⟩ := h.row (by rintro rfl; simp at hv)
  obtain ⟨rfl, rfl⟩ : g = b ∧ 0 = o := by simpa using e
  simpa using hc i v hv
/-- what Crash answers -/
def CrashGot (t : TypeId) (F : Nat → Prop) (w : World) (s : Nat) (B : List (List UInt8)) (P : List Snt) (ks : List Int) (e : Ending) (w' : World) : Prop :=
  match mark (List.replicate P.length false) ks with
  | none => e = .returned (.int .i64 20) ∧ Upd Nil w w'
  | some st => DGot t F w s (.int .i64 0) (applyP B (kept st P)) [] e w'

theorem copy_end {t : TypeId} {w w1 w2 : World} {R E Q E2 : Nat → Prop} {B : List (List UInt8)} {P : List Snt} {a p : Option Addr} {c d : Nat} {vs us : List Value}
    (h1 : Rows R E w1 a B.length c vs B) (hR : ∀ k, R k → Fr w w1 k) (hE : ∀ k, E k → Fr w w1 k) (hu1 : Upd Nil w w1)
    (h2 : SRows Q E2 w2 p P.length d us P) (hQ : ∀ k, Q k → Fr w1 w2 k) (hE2 : ∀ k, E2 k → Fr w1 w2 k) (hu2 : Upd Nil w1 w2) :
    DRep t (fun k => Fr w (w2.alloc (.cells #[.slice a B.length c, .slice p P.length d] t)) k) (w2.alloc (.cells #[.slice a B.length c, .slice p P.length d] t)) w2.heap.size B P := by
  have hz1 := hu1.size
  have hz2 := hu2.size
  have hsz : (w2.alloc (.cells #[.slice a B.length c, .slice p P.length d] t)).heap.size = w2.heap.size + 1 := by simp
  have al : Upd Nil w2 (w2.alloc (.cells #[.slice a B.length c, .slice p P.length d] t)) := (Upd.refl Nil w2).alloc _
  refine ⟨R, Q, fun k => E k ∨ E2 k, a, c, vs, p, d, us, ⟨by omega, by omega⟩, fun k hk => ?_, fun k hk => ?_, ?_, Blk.new w2 t _, (h1.own.keep hu2).keep al, h2.own.keep al, h1.all.mono (fun v x h => ((h.keep hu2).keep al).mono (fun k h => .inl h)), h2.all.mono (fun v x h => (h.keep al).mono (fun k h => .inr h))⟩
  · have := hR k hk
    exact ⟨⟨this.1, by have := this.2; omega⟩, by have := this.2; omega, by have := this.2; omega⟩
  · have := hQ k hk
    refine ⟨⟨by have := this.1; omega, by have := this.2; omega⟩, by have := this.2; omega, fun r => ?_, by have := this.2; omega⟩
    have := (hR k r).2
    have := (hQ k hk).1
    omega
  · rintro k (hk | hk)
    · have h := hE k hk
      refine ⟨⟨h.1, by have := h.2; omega⟩, by have := h.2; omega, h1.apart k hk, fun q => ?_, by have := h.2; omega⟩
      have := (hQ k q).1
      have := h.2
      omega
    · have h := hE2 k hk
      refine ⟨⟨by have := h.1; omega, by have := h.2; omega⟩, by have := h.2; omega, fun r => ?_, h2.apart k hk, by have := h.2; omega⟩
      have := (hR k r).2
      have := h.1
      omega

/-- another disk, in blocks of its own -/
def GotCopy (t : TypeId) (w : World) (B : List (List UInt8)) (P : List Snt) (e : Ending) (w' : World) : Prop :=
  ∃ s F, e = .returned (.pointer (some ⟨s, 0, none⟩)) ∧ DRep t F w' s B P ∧ (∀ k, F k → Fr w w' k) ∧ Upd Nil w w'

theorem disk_Copy {F : Nat → Prop} (w : World) {s : Nat} {B : List (List UInt8)} {P : List Snt} (h : DiskRep F w s B P) (hf : Fine B P) (hP : P.length ≤ 4000000000000) :
    Calls Tryd.prog 81 #[.pointer (some ⟨s, 0, none⟩)] w (GotCopy 76 w B P) := by
  have H0 := Lib.hid (disk_Sectors w h)
  have hne : ((B.length : Int) == 0) = false := by rw [beq_eq_false_iff_ne]; have := hf.pos; omega
  have HI := Lib.hid (platter_image w h (by have := hf.le; omega) (fun x hx => by rw [hf.size x hx]; decide))
  have HRep := Lib.hid h
  have HF := Lib.hid hf
  clear h hf
  go_enter Tryd.func81, Tryd.ntmps81
  go_wp2_with (first
    | (go_at_call 39; refine H0.out.mono ?_; rintro e w' ⟨rfl, rfl⟩)
    | (go_at_call 106; refine HI.out.mono ?_; rintro e w1 ⟨R, E, a, c, vs, rfl, h1, h2, h3, h4⟩; have H1 := Lib.hid h1; have H2 := Lib.hid h2; have H3 := Lib.hid h3; have H4 := Lib.hid h4; clear h1 h2 h3 h4)
    | (go_at_call 107; refine (disk_Pending _ (HRep.out.upd H4.out (fun _ _ f => f)) hP (fun x hx => by rw [(HF.out.sent x hx).2]; decide)).mono ?_; rintro e w2 ⟨Q, E2, p, d, us, rfl, h1, h2, h3, h4⟩; have H5 := Lib.hid h1; have H6 := Lib.hid h2; have H7 := Lib.hid h3; have H8 := Lib.hid h4; clear h1 h2 h3 h4))
  go_ret
  exact ⟨w2.heap.size, _, rfl, copy_end H1.out H2.out H3.out H4.out H5.out H6.out H7.out H8.out, fun k hk => hk, (H4.out.trans H8.out (fun _ f _ => f)).alloc _⟩
end Go.Proofs.YtbaombnnagidcaaDoor
