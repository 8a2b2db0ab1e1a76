/- The document's disk: Flush, Crash, Copy. -/
import Derived.Test.YtbaombnnagidcaaDoorRefDisk
import Derived.Test.YtbaombnnagidcaaDoorDisk3
namespace Go.Proofs.YtbaombnnagidcaaDoor
open Go.RowKit

set_option maxRecDepth 100000 in
set_option maxHeartbeats 2000000 in
theorem x_Flush {F : Nat → Prop} (w : World) {s : Nat} {B : List (List UInt8)} {P : List Snt} (h : XRep F w s B P) (hf : Fine B P) (hP : P.length ≤ 4000000000000) :
    Calls Tryd.prog 119 #[.pointer (some ⟨s, 0, none⟩)] w (DGot 155 F w s (.int .i64 0) (applyP B P) []) := by
  have hF0 := Lib.hid hf
  have HRep := Lib.hid h
  obtain ⟨R, Q, E, a, c, vs, p, d, us, hFs, hR, hQ, hE, hb, hr, hq, hall, hsent⟩ := h
  have hc1 : w.cell? ⟨s, 1, none⟩ = some (.slice p P.length d) := hb.cell 1
  have HC1 := Lib.hid hc1
  clear hR hQ hE hb hr hq hall hsent hf
  go_enter Tryd.func119, Tryd.ntmps119
  go_wp2
  go_loopg [10] P.length (fun k i wr => ∃ j : Nat, j + k = P.length ∧ i = .int .i64 j ∧ ∃ F', XRep F' wr s (applyP B (P.take j)) P ∧ wr.cell? ⟨s, 1, none⟩ = some (.slice p P.length d) ∧ Upd F w wr ∧ ∀ k, F' k → F k ∨ Fr w wr k)
  case atStart => exact ⟨0, by omega, rfl, F, HRep.out, hc1, Upd.refl _ _, fun _ h => .inl h⟩
  case round =>
    obtain ⟨j, hjk, rfl, F', hrep, hcp, hup, hF'⟩ := hrel
    have hjn : j ≤ P.length := by omega
    have HJ := Lib.hid hjk
    have HR := Lib.hid hrep
    have HCp := Lib.hid hcp
    have HU := Lib.hid hup
    have HF := Lib.hid hF'
    clear hjk hrep hup hF'
    by_cases hlt : j < P.length
    · have hsent := hF0.out.sent _ (List.getElem_mem hlt)
      have htk := List.take_succ_eq_append_getElem hlt
      obtain ⟨R', Q', E', a', c', vs', p', d', us', hFs', hR', _, _, hb', hr', hq', _, hs'⟩ := HR.out
      have e1 : wr.cell? ⟨s, 1, none⟩ = some (.slice p' P.length d') := hb'.cell 1
      rw [hcp] at e1
      injection e1 with e1
      injection e1 with e1 _ e3
      subst e1; subst e3
      obtain ⟨b, v, rfl, _, hcA, hcB, hel⟩ := sentAt hq' hs' hlt
      obtain ⟨⟨i, xs⟩, hij⟩ : ∃ q, P[j] = q := ⟨_, rfl⟩
      rw [hij] at hsent htk hcA hel
      obtain ⟨ax, cx, rfl, hrx, hnx, _⟩ := hel
      have hc0 : wr.cell? ⟨s, 0, none⟩ = some (.slice a' (applyP B (P.take j)).length c') := hb'.cell 0
      have hil : i < (applyP B (P.take j)).length := by rw [length_applyP]; exact hsent.1
      obtain ⟨g, rfl, hRg⟩ := hr'.isNone (by omega)
      have hgs : g ≠ s := (hR' g hRg).2.1
      have hgl := (hR' g hRg).2.2
      have hslt := hb'.lt
      have HRow := Lib.hid hr'
      have HRx := Lib.hid hrx
      have HNx := Lib.hid hnx
      have HTk := Lib.hid htk
      have HSe := Lib.hid hsent
      have HC0 := Lib.hid hc0
      clear hb' hq' hs' hrx hnx htk hsent hij hr' hR'
      go_wp2
      have HCA := Lib.hid (((Upd.refl Nil wr).alloc (.cells #[.int .i64 i, .slice ax xs.length cx] 145)).cell hc0 (fun f => f))
      have HBx := Lib.hid (Blk.new wr 145 #[.int .i64 i, .slice ax xs.length cx])
      go_region_law (go_simp; go_at_call 108; refine (copied02 _ cx (HRx.out.alloc _).drew HNx.out (by rw [HSe.out.2]; decide)).mono ?_; rintro e w1 ⟨a1, c1, rfl, hown1, hup1⟩
                     have hup1 := hup1.ofDrew
                     have hown1 : Own (Fr (wr.alloc (.cells #[.int .i64 i, .slice ax xs.length cx] 145)) w1) w1 5 1 a1 xs.length c1 (bvs xs) := hown1
                     have hrow1 := (HRow.out.alloc (.cells #[.int .i64 i, .slice ax xs.length cx] 145)).upd hup1 (fun _ _ f => f)
                     have hd0 := hup1.cell HCA.out (fun f => f)
                     have hx0 : w1.cell? ⟨wr.heap.size, 0, none⟩ = some (.int .i64 i) := (HBx.out.upd hup1 (fun f => f)).cell 0
                     have hx1 : w1.cell? ⟨wr.heap.size, 1, none⟩ = some (.slice ax xs.length cx) := (HBx.out.upd hup1 (fun f => f)).cell 1
                     have hf1 : w1.frozen? ⟨g, i, none⟩ = false := hrow1.frozen rfl i
                     obtain ⟨u, hu⟩ := hrow1.there rfl (j := i) (by have := hrow1.le; omega)
                     have HO1 := Lib.hid hown1; have HU1 := Lib.hid hup1; clear hown1 hup1 hrow1)
      all_goals go_wp2
      all_goals go_roundg (gk - 1)
      all_goals first
        | (have := HJ.out; omega)
        | (have hup : Upd Nil wr w1 := ((Upd.refl Nil wr).alloc _).trans HU1.out (fun _ f _ => f)
           have hown : Own (Fr wr w1) w1 5 1 a1 xs.length c1 (bvs xs) := HO1.out.mono (fun k hk => ⟨by have := hk.1; simp only [World.size_alloc] at this; omega, hk.2⟩)
           obtain ⟨_, F2, hrep, hupF, hF2⟩ := take_end (i := i) HR.out HC0.out rfl hown hup
           refine ⟨j + 1, by have := HJ.out; omega, by go_num, F2, ?_, ?_, ?_, ?_⟩
           · rw [HTk.out, applyP_snoc]
             exact hrep
           · exact (Upd.refl (One g) w1).setCell (p := ⟨g, i, none⟩) (.inl rfl) _ |>.cell (hup.cell HCp.out (fun f => f)) (fun e => hgs e.symm)
           · refine HU.out.trans hupF (fun k hk hlt => ?_)
             rcases HF.out k hk with h | h
             · exact h
             · have := h.1
               omega
           · intro k hk
             have hz0 := HU.out.size
             have hz1 := hup.size
             rcases hF2 k hk with h | h
             · rcases HF.out k h with h | h
               · exact .inl h
               · exact .inr ⟨h.1, by have := h.2; simp; omega⟩
             · exact .inr ⟨by have := h.1; omega, h.2⟩)
    · obtain rfl : j = P.length := by omega
      have hr := HR.out
      rw [List.take_length] at hr
      obtain ⟨_, _, _, _, _, _, _, _, _, _, _, _, _, hb', _⟩ := HR.out
      have hf0 := hb'.frozen 1
      clear hb'
      have HR2 := Lib.hid hr
      clear hr
      go_wp2
      go_ret
      exact ⟨rfl, F', clear_end HR2.out, HU.out.setCell (p := ⟨s, 1, none⟩) (.inl hFs) _, fun k hk => by rcases HF.out k hk with h | h; exact .inl h; exact .inr ⟨h.1, by simpa using h.2⟩⟩

end Go.Proofs.YtbaombnnagidcaaDoor
