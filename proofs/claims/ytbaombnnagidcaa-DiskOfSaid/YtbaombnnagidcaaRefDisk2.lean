/- The document's disk: Flush, Crash, Copy. -/
import Derived.Test.YtbaombnnagidcaaRefDisk
import Derived.Test.YtbaombnnagidcaaDisk3
namespace Go.Proofs.Ytbaombnnagidcaa
open Go.RowKit

set_option maxRecDepth 100000 in
set_option maxHeartbeats 2000000 in
theorem x_Flush {F : Nat → Prop} (w : World) {s : Nat} {B : List (List UInt8)} {P : List Snt} (h : XRep F w s B P) (hf : Fine B P) (hP : P.length ≤ 4000000000000) :
    Calls Try.prog 65 #[.pointer (some ⟨s, 0, none⟩)] w (DGot 113 F w s (.int .i64 0) (applyP B P) []) := by
  have hF0 := Lib.hid hf
  have HRep := Lib.hid h
  obtain ⟨R, Q, E, a, c, vs, p, d, us, hFs, hR, hQ, hE, hb, hr, hq, hall, hsent⟩ := h
  have hc1 : w.cell? ⟨s, 1, none⟩ = some (.slice p P.length d) := hb.cell 1
  have HC1 := Lib.hid hc1
  clear hR hQ hE hb hr hq hall hsent hf
  go_enter Try.func65, Try.ntmps65
  go_wp2
  go_loopg [10] P.length (fun k i wr => ∃ j : Nat, j + k = P.length ∧ i = .int .i64 j ∧ ∃ F', XRep F' wr s (applyP B (P.take j)) P ∧ wr.cell? ⟨s, 1, none⟩ = some (.slice p P.length d) ∧ Upd F w wr ∧ ∀ k, F' k → F k ∨ Fr w wr k)
  case atStart => exact ⟨0, by omega, rfl, F, HRep.out, hc1, Upd.refl _ _, fun _ h => .inl h⟩
  case round =>
    obtain ⟨j, hjk, rfl, F', hrep, hcp, hup, hF'⟩ := hrel
    have hjn : j ≤ P.length := by omega
    have HJ := Lib.hid hjk
    have HR := Lib.hid hrep
    have HCp := Lib.hid hcp
    have HU := Lib.hid hup
    have HF := Lib.hid hF'
    clear hjk hrep hup hF'
    by_cases hlt : j < P.length
    · have hsent := hF0.out.sent _ (List.getElem_mem hlt)
      have htk := List.take_succ_eq_append_getElem hlt
      obtain ⟨R', Q', E', a', c', vs', p', d', us', hFs', hR', _, _, hb', hr', hq', _, hs'⟩ := HR.out
      have e1 : wr.cell? ⟨s, 1, none⟩ = some (.slice p' P.length d') := hb'.cell 1
      rw [hcp] at e1
      injection e1 with e1
      injection e1 with e1 _ e3
      subst e1; subst e3
      obtain ⟨b, v, rfl, _, hcA, hcB, hel⟩ := sentAt hq' hs' hlt
      obtain ⟨⟨i, xs⟩, hij⟩ : ∃ q, P[j] = q := ⟨_, rfl⟩
      rw [hij] at hsent htk hcA hel
      obtain ⟨ax, cx, rfl, hrx, hnx, _⟩ := hel
      have hc0 : wr.cell? ⟨s, 0, none⟩ = some (.slice a' (applyP B (P.take j)).length c') := hb'.cell 0
      have hil : i < (applyP B (P.take j)).length := by rw [length_applyP]; exact hsent.1
      obtain ⟨g, rfl, hRg⟩ := hr'.isNone (by omega)
      have hgs : g ≠ s := (hR' g hRg).2.1
      have hgl := (hR' g hRg).2.2
      have hslt := hb'.lt
      have HRow := Lib.hid hr'
      have HRx := Lib.hid hrx
      have HNx := Lib.hid hnx
      have HTk := Lib.hid htk
      have HSe := Lib.hid hsent
      have HC0 := Lib.hid hc0
      clear hb' hq' hs' hrx hnx htk hsent hij hr' hR'
      go_wp2
      have HCA := Lib.hid (((Upd.refl Nil wr).alloc (.cells #[.int .i64 i, .slice ax xs.length cx] 72)).cell hc0 (fun f => f))
      have HBx := Lib.hid (Blk.new wr 72 #[.int .i64 i, .slice ax xs.length cx])
      go_region_law (go_simp; go_at_call 73; refine (copied02 _ cx (HRx.out.alloc _).drew HNx.out (by rw [HSe.out.2]; decide)).mono ?_; rintro e w1 ⟨a1, c1, rfl, hown1, hup1⟩
                     have hup1 := hup1.ofDrew
                     have hown1 : Own (Fr (wr.alloc (.cells #[.int .i64 i, .slice ax xs.length cx] 72)) w1) w1 5 1 a1 xs.length c1 (bvs xs) := hown1
                     have hrow1 := (HRow.out.alloc (.cells #[.int .i64 i, .slice ax xs.length cx] 72)).upd hup1 (fun _ _ f => f)
                     have hd0 := hup1.cell HCA.out (fun f => f)
                     have hx0 : w1.cell? ⟨wr.heap.size, 0, none⟩ = some (.int .i64 i) := (HBx.out.upd hup1 (fun f => f)).cell 0
                     have hx1 : w1.cell? ⟨wr.heap.size, 1, none⟩ = some (.slice ax xs.length cx) := (HBx.out.upd hup1 (fun f => f)).cell 1
                     have hf1 : w1.frozen? ⟨g, i, none⟩ = false := hrow1.frozen rfl i
                     obtain ⟨u, hu⟩ := hrow1.there rfl (j := i) (by have := hrow1.le; omega)
                     have HO1 := Lib.hid hown1; have HU1 := Lib.hid hup1; clear hown1 hup1 hrow1)
      all_goals go_wp2
      all_goals go_roundg (gk - 1)
      all_goals first
        | (have := HJ.out; omega)
        | (have hup : Upd Nil wr w1 := ((Upd.refl Nil wr).alloc _).trans HU1.out (fun _ f _ => f)
           have hown : Own (Fr wr w1) w1 5 1 a1 xs.length c1 (bvs xs) := HO1.out.mono (fun k hk => ⟨by have := hk.1; simp only [World.size_alloc] at this; omega, hk.2⟩)
           obtain ⟨_, F2, hrep, hupF, hF2⟩ := take_end (i := i) HR.out HC0.out rfl hown hup
           refine ⟨j + 1, by have := HJ.out; omega, by go_num, F2, ?_, ?_, ?_, ?_⟩
           · rw [HTk.out, applyP_snoc]
             exact hrep
           · exact (Upd.refl (One g) w1).setCell (p := ⟨g, i, none⟩) (.inl rfl) _ |>.cell (hup.cell HCp.out (fun f => f)) (fun e => hgs e.symm)
           · refine HU.out.trans hupF (fun k hk hlt => ?_)
             rcases HF.out k hk with h | h
             · exact h
             · have := h.1
               omega
           · intro k hk
             have hz0 := HU.out.size
             have hz1 := hup.size
             rcases hF2 k hk with h | h
             · rcases HF.out k h with h | h
               · exact .inl h
               · exact .inr ⟨h.1, by have := h.2; simp; omega⟩
             · exact .inr ⟨by have := h.1; omega, h.2⟩)
    · obtain rfl : j = P.length := by omega
      have hr := HR.out
      rw [List.take_length] at hr
      obtain ⟨_, _, _, _, _, _, _, _, _, _, _, _, _, hb', _⟩ := HR.out
      have hf0 := hb'.frozen 1
      clear hb'
      have HR2 := Lib.hid hr
      clear hr
      go_wp2
      go_ret
      exact ⟨rfl, F', clear_end HR2.out, HU.out.setCell (p := ⟨s, 1, none⟩) (.inl hFs) _, fun k hk => by rcases HF.out k hk with h | h; exact .inl h; exact .inr ⟨h.1, by simpa using h.2⟩⟩
set_option maxRecDepth 100000 in
set_option maxHeartbeats 2000000 in
theorem x_Crash {F G : Nat → Prop} (w : World) {s : Nat} {B : List (List UInt8)} {P : List Snt} (h : XRep F w s B P) (hf : Fine B P) (hP : P.length ≤ 4000000000000) {ka : Option Addr} (kc : Nat) {ks : List Int} (hk : Row G w ka (ivs ks)) (hkl : ks.length ≤ 9223372036854775807) :
    Calls Try.prog 66 #[.pointer (some ⟨s, 0, none⟩), .slice ka ks.length kc] w (CrashGot 113 F w s B P ks) := by
  have hF0 := Lib.hid hf
  have HRep := Lib.hid h
  obtain ⟨R, Q, E, a, c, vs, p, d, us, hFs, hR, hQ, hE, hb, hr, hq, hall, hsent⟩ := h
  have hc1 : w.cell? ⟨s, 1, none⟩ = some (.slice p P.length d) := hb.cell 1
  have HC1 := Lib.hid hc1
  have HK := Lib.hid hk
  have hmk := makeBools (n := P.length) (z := (P.length : Int)) rfl (by omega)
  clear hR hQ hE hb hr hq hall hsent hf hk
  go_enter Try.func66, Try.ntmps66
  go_wp2
  obtain ⟨W1, hW1⟩ : ∃ W1, w.alloc (.cells (Array.replicate P.length (Value.bool false)) 4) = W1 := ⟨_, rfl⟩
  have hU1 : Upd Nil w W1 := by rw [← hW1]; exact (Upd.refl Nil w).alloc _
  have hst : Own (One w.heap.size) W1 4 1 (some ⟨w.heap.size, 0, none⟩) P.length P.length (bls (List.replicate P.length false)) := by rw [← hW1]; exact own_falses w (by simp only [maxLen]; omega)
  have hz1 : W1.heap.size = w.heap.size + 1 := by rw [← hW1]; simp
  have HU1 := Lib.hid hU1
  have HSt := Lib.hid hst
  have HZ1 := Lib.hid hz1
  rw [hW1]
  clear hU1 hst hz1 hW1 hmk
  go_loopg [18] ks.length (fun k i wr => ∃ j : Nat, j + k = ks.length ∧ i = .int .i64 j ∧ ∃ st, mark (List.replicate P.length false) (ks.take j) = some st ∧ Own (One w.heap.size) wr 4 1 (some ⟨w.heap.size, 0, none⟩) P.length P.length (bls st) ∧ w.heap.size + 1 ≤ wr.heap.size ∧ Upd Nil w wr)
  case atStart => exact ⟨0, by omega, rfl, _, rfl, HSt.out, by have := HZ1.out; omega, HU1.out⟩
  case round =>
    obtain ⟨j, hjk, rfl, st, hm, hown, hsz, hup⟩ := hrel
    have hjn : j ≤ ks.length := by omega
    have hsl : st.length = P.length := by rw [mark_length hm, List.length_replicate]
    have HJ := Lib.hid hjk
    have HM := Lib.hid hm
    have HO := Lib.hid hown
    have HU := Lib.hid hup
    have HSl := Lib.hid hsl
    have hup1 := HU.out.size
    have hcp := HU.out.cell HC1.out (fun f => f)
    clear hjk hm hown hup hsl
    by_cases hlt : j < ks.length
    · have hkv : (ivs ks)[j]? = some (.int .i64 ks[j]) := by simp [ivs, hlt]
      obtain ⟨b, o, rfl, _, hcell0⟩ := rowAt HK.out hkv
      have hcell := HU.out.cell hcell0 (fun f => f)
      have htk := List.take_succ_eq_append_getElem hlt
      have hall : ks = ks.take (j + 1) ++ ks.drop (j + 1) := (List.take_append_drop _ _).symm
      obtain ⟨q, hq⟩ : ∃ q, ks[j] = q := ⟨_, rfl⟩
      rw [hq] at hcell htk
      have HTk := Lib.hid htk
      have HAll := Lib.hid hall
      clear hkv hcell0 htk hall hq
      by_cases h0 : q < 0
      · have hbad : mark (List.replicate P.length false) ks = none := by
          rw [HAll.out, mark_append, HTk.out, mark_append, HM.out]
          simp [mark, h0]
        have HBad := Lib.hid hbad
        clear hbad
        go_wp2
        go_ret
        rw [CrashGot, HBad.out]
        exact ⟨rfl, HU.out⟩
      · obtain ⟨m, rfl⟩ : ∃ m : Nat, q = m := ⟨q.toNat, by omega⟩
        clear h0
        by_cases h1 : m < P.length
        · by_cases h2 : st[m]'(by have := HSl.out; omega) = true
          · have hcm : wr.cell? ⟨w.heap.size, m, none⟩ = some (.bool true) := by rw [← h2]; exact HO.out.cellAt (bls_get (by have := HSl.out; omega))
            have hbad : mark (List.replicate P.length false) ks = none := by
              rw [HAll.out, mark_append, HTk.out, mark_append, HM.out]
              have : st[m]? = some true := by rw [List.getElem?_eq_getElem (by have := HSl.out; omega), h2]
              simp [mark, this]
            have HBad := Lib.hid hbad
            clear hbad h2
            go_wp2
            go_ret
            rw [CrashGot, HBad.out]
            exact ⟨rfl, HU.out⟩
          · have h2' : st[m]'(by have := HSl.out; omega) = false := by simpa using h2
            have hcm : wr.cell? ⟨w.heap.size, m, none⟩ = some (.bool false) := by rw [← h2']; exact HO.out.cellAt (bls_get (by have := HSl.out; omega))
            have hfm : wr.frozen? ⟨w.heap.size, m, none⟩ = false := HO.out.frozen rfl m
            have hgood : mark (List.replicate P.length false) (ks.take (j + 1)) = some (st.set m true) := by
              rw [HTk.out, mark_append, HM.out]
              have : ¬ ((m : Int) < 0 ∨ (st.length : Int) ≤ m ∨ st[m]? = some true) := by
                have hs := HSl.out
                rw [List.getElem?_eq_getElem (by omega), h2']
                simp
                omega
              simp only [Option.bind_some, mark, Int.toNat_natCast, if_neg this]
            have HG := Lib.hid hgood
            clear hgood h2 h2'
            go_wp2
            go_roundg (gk - 1)
            case measure => have := HJ.out; omega
            case rel =>
              refine ⟨j + 1, by have := HJ.out; omega, by go_num, _, HG.out, ?_, by simpa using hsz, HU.out.setCell (p := ⟨w.heap.size, m, none⟩) (.inr (Nat.le_refl _)) _⟩
              have := HO.out.stored rfl m (.bool true)
              rwa [bls_set] at this
        · have hbad : mark (List.replicate P.length false) ks = none := by
            rw [HAll.out, mark_append, HTk.out, mark_append, HM.out]
            have : ¬ m < st.length := by have := HSl.out; omega
            simp [mark, this]
          have HBad := Lib.hid hbad
          clear hbad
          go_wp2
          go_ret
          rw [CrashGot, HBad.out]
          exact ⟨rfl, HU.out⟩
    · obtain rfl : j = ks.length := by omega
      have hm := HM.out
      rw [List.take_length] at hm
      have HMs := Lib.hid hm
      clear hm
      obtain ⟨W2, rfl⟩ : ∃ W2, W2 = wr := ⟨_, rfl⟩
      have HCg := Lib.hid (show ∀ e w', DGot 113 F w s (.int .i64 0) (applyP B (kept st P)) [] e w' → CrashGot 113 F w s B P ks e w' from fun e w' h => by rw [CrashGot, HMs.out]; exact h)
      have HR0 := Lib.hid (HRep.out.inHeap.upd HU.out (fun _ _ f => f))
      clear HRep
      go_wp2
      go_loopg [48] P.length (fun k i wr => ∃ j : Nat, j + k = P.length ∧ i = .int .i64 j ∧ ∃ F', XRep F' wr s (applyP B (kept (st.take j) (P.take j))) P ∧ wr.cell? ⟨s, 1, none⟩ = some (.slice p P.length d) ∧ Own (One w.heap.size) wr 4 1 (some ⟨w.heap.size, 0, none⟩) P.length P.length (bls st) ∧ Upd F w wr ∧ w.heap.size + 1 ≤ wr.heap.size ∧ ∀ k, F' k → (F k ∧ k < w.heap.size) ∨ (w.heap.size + 1 ≤ k ∧ k < wr.heap.size))
      case atStart =>
        refine ⟨0, by omega, rfl, _, ?_, hcp, HO.out, HU.out.ofNil, hsz, fun _ h => .inl h⟩
        simpa [kept, applyP] using HR0.out
      case round =>
        obtain ⟨j, hjk, rfl, F', hrep, hcpj, hstj, hupj, hszj, hFj⟩ := hrel
        have hjn : j ≤ P.length := by omega
        have HJ2 := Lib.hid hjk
        have HR := Lib.hid hrep
        have HCp := Lib.hid hcpj
        have HSj := Lib.hid hstj
        have HUj := Lib.hid hupj
        have HFj := Lib.hid hFj
        clear hjk hrep hupj hFj hstj
        by_cases hlt2 : j < P.length
        · have hsent := hF0.out.sent _ (List.getElem_mem hlt2)
          have hsl := HSl.out
          have hks := kept_snoc (st := st) (l := P) j (by omega) hlt2
          obtain ⟨R', Q', E', a', c', vs', p', d', us', _, hR', _, _, hb', hr', hq', _, hs'⟩ := HR.out
          have e1 : wr.cell? ⟨s, 1, none⟩ = some (.slice p' P.length d') := hb'.cell 1
          rw [hcpj] at e1
          injection e1 with e1
          injection e1 with e1 _ e3
          subst e1; subst e3
          obtain ⟨b, v, rfl, _, hcA, hcB, hel⟩ := sentAt hq' hs' hlt2
          obtain ⟨⟨i, xs⟩, hij⟩ : ∃ q, P[j] = q := ⟨_, rfl⟩
          rw [hij] at hsent hcA hel hks
          obtain ⟨ax, cx, rfl, hrx, hnx, _⟩ := hel
          have hc0 : wr.cell? ⟨s, 0, none⟩ = some (.slice a' (applyP B (kept (st.take j) (P.take j))).length c') := hb'.cell 0
          have hil : i < (applyP B (kept (st.take j) (P.take j))).length := by rw [length_applyP]; exact hsent.1
          obtain ⟨g, rfl, hRg⟩ := hr'.isNone (by omega)
          have hgs : g ≠ s := (hR' g hRg).2.1
          have hgl := (hR' g hRg).2.2
          have hslt := hb'.lt
          have HRow := Lib.hid hr'
          have HRx := Lib.hid hrx
          have HNx := Lib.hid hnx
          have HC0 := Lib.hid hc0
          have hcm0 : wr.cell? ⟨w.heap.size, j, none⟩ = some (.bool (st[j]'(by omega))) := HSj.out.cellAt (bls_get (by omega))
          have hWst : (wr.alloc (.cells #[.int .i64 i, .slice ax xs.length cx] 72)).cell? ⟨w.heap.size, j, none⟩ = some (.bool (st[j]'(by omega))) := ((Upd.refl Nil wr).alloc _).cell hcm0 (fun f => f)
          obtain ⟨bit, hbit⟩ : ∃ bit, st[j]'(by omega) = bit := ⟨_, rfl⟩
          rw [hbit] at hWst hks hcm0
          have HKs := Lib.hid hks
          have HSe := Lib.hid hsent
          clear hb' hq' hs' hrx hnx hr' hR' hks hsent hij hbit hsl
          have hU1 : Upd Nil wr (wr.alloc (.cells #[.int .i64 i, .slice ax xs.length cx] 72)) := (Upd.refl Nil wr).alloc _
          have hy0 : (wr.alloc (.cells #[.int .i64 i, .slice ax xs.length cx] 72)).cell? ⟨wr.heap.size, 0, none⟩ = some (.int .i64 i) := (Blk.new wr _ _).cell 0
          have hy1 : (wr.alloc (.cells #[.int .i64 i, .slice ax xs.length cx] 72)).cell? ⟨wr.heap.size, 1, none⟩ = some (.slice ax xs.length cx) := (Blk.new wr _ _).cell 1
          have HUW := Lib.hid hU1
          clear hU1
          cases bit
          · go_wp2
            go_roundg (gk - 1)
            case measure => have := HJ2.out; omega
            case rel =>
              refine ⟨j + 1, by have := HJ2.out; omega, by go_num, F', ?_, HUW.out.cell HCp.out (fun f => f), HSj.out.keep HUW.out, HUj.out.trans HUW.out (fun _ f _ => f.elim), Nat.le_trans hszj HUW.out.size, fun k hk => ?_⟩
              · have := HKs.out
                simp only [Bool.false_eq_true, if_false, List.append_nil] at this
                rw [this]
                exact HR.out.upd HUW.out (fun _ _ f => f)
              · rcases HFj.out k hk with h | h
                · exact .inl h
                · exact .inr ⟨h.1, Nat.lt_of_lt_of_le h.2 HUW.out.size⟩
          · go_wp2
            have HCA := Lib.hid (((Upd.refl Nil wr).alloc (.cells #[.int .i64 i, .slice ax xs.length cx] 72)).cell hc0 (fun f => f))
            have HBx := Lib.hid (Blk.new wr 72 #[.int .i64 i, .slice ax xs.length cx])
            go_region_law (go_simp; go_at_call 73; refine (copied02 _ cx (HRx.out.alloc _).drew HNx.out (by rw [HSe.out.2]; decide)).mono ?_; rintro e w1 ⟨a1, c1, rfl, hown1, hup1⟩
                           have hup1 := hup1.ofDrew
                           have hown1 : Own (Fr (wr.alloc (.cells #[.int .i64 i, .slice ax xs.length cx] 72)) w1) w1 5 1 a1 xs.length c1 (bvs xs) := hown1
                           have hrow1 := (HRow.out.alloc (.cells #[.int .i64 i, .slice ax xs.length cx] 72)).upd hup1 (fun _ _ f => f)
                           have hd0 := hup1.cell HCA.out (fun f => f)
                           have hx0 : w1.cell? ⟨wr.heap.size, 0, none⟩ = some (.int .i64 i) := (HBx.out.upd hup1 (fun f => f)).cell 0
                           have hx1 : w1.cell? ⟨wr.heap.size, 1, none⟩ = some (.slice ax xs.length cx) := (HBx.out.upd hup1 (fun f => f)).cell 1
                           have hf1 : w1.frozen? ⟨g, i, none⟩ = false := hrow1.frozen rfl i
                           obtain ⟨u, hu⟩ := hrow1.there rfl (j := i) (by have := hrow1.le; omega)
                           have HO1 := Lib.hid hown1; have HU1 := Lib.hid hup1; clear hown1 hup1 hrow1)
            all_goals go_wp2
            all_goals go_roundg (gk - 1)
            all_goals first
              | (have := HJ2.out; omega)
              | (have hup : Upd Nil wr w1 := ((Upd.refl Nil wr).alloc _).trans HU1.out (fun _ f _ => f)
                 have hown : Own (Fr wr w1) w1 5 1 a1 xs.length c1 (bvs xs) := HO1.out.mono (fun k hk => ⟨by have := hk.1; simp only [World.size_alloc] at this; omega, hk.2⟩)
                 obtain ⟨_, F2, hrep, hupF, hF2⟩ := take_end (i := i) HR.out HC0.out rfl hown hup
                 have hz1 := hup.size
                 have hz2 := hupF.size
                 have hzz := HUj.out.size
                 refine ⟨j + 1, by have := HJ2.out; omega, by go_num, F2, ?_, ?_, ?_, ?_, by omega, ?_⟩
                 · have := HKs.out
                   simp only [if_true] at this
                   rw [this, applyP_snoc]
                   exact hrep
                 · exact (Upd.refl (One g) w1).setCell (p := ⟨g, i, none⟩) (.inl rfl) _ |>.cell (hup.cell HCp.out (fun f => f)) (fun e => hgs e.symm)
                 · refine HSj.out.upd hupF (fun k hk hF => ?_)
                   have hk' : k = w.heap.size := hk
                   rcases HFj.out k hF with h | h
                   · have := h.2
                     omega
                   · have := h.1
                     omega
                 · refine HUj.out.trans hupF (fun k hk hlt => ?_)
                   rcases HFj.out k hk with h | h
                   · exact h.1
                   · have := h.1
                     omega
                 · intro k hk
                   rcases hF2 k hk with h | h
                   · rcases HFj.out k h with h | h
                     · exact .inl h
                     · exact .inr ⟨h.1, by have := h.2; omega⟩
                   · exact .inr ⟨by have := h.1; omega, h.2⟩)
        · obtain rfl : j = P.length := by omega
          have hr := HR.out
          have hsl := HSl.out
          rw [List.take_length, ← hsl, List.take_length] at hr
          obtain ⟨_, _, _, _, _, _, _, _, _, _, _, _, _, hb', _⟩ := HR.out
          have hf0 := hb'.frozen 1
          clear hb' hsl
          have HR2 := Lib.hid hr
          clear hr
          go_wp2
          go_ret
          refine HCg.out _ _ ⟨rfl, F', clear_end HR2.out, HUj.out.setCell (p := ⟨s, 1, none⟩) (.inl hFs) _, fun k hk => ?_⟩
          rcases HFj.out k hk with h | h
          · exact .inl h.1
          · exact .inr ⟨by have := h.1; omega, by simpa using h.2⟩

set_option maxRecDepth 100000 in
set_option maxHeartbeats 2000000 in
theorem x_Copy {F : Nat → Prop} (w : World) {s : Nat} {B : List (List UInt8)} {P : List Snt} (h : XRep F w s B P) (hf : Fine B P) (hP : P.length ≤ 4000000000000) :
    Calls Try.prog 48 #[.pointer (some ⟨s, 0, none⟩)] w (GotCopy 113 w B P) := by
  have HI := Lib.hid (x_Image w h (by have := hf.le; omega) (fun x hx => by rw [hf.size x hx]; decide))
  have HRep := Lib.hid h
  have HF0 := Lib.hid hf
  obtain ⟨R, Q, E, a, c, vs, p, d, us, hFs, hR, hQ, hE, hb, hr, hq, hall, hsent⟩ := h
  have hc1 : w.cell? ⟨s, 1, none⟩ = some (.slice p P.length d) := hb.cell 1
  have HQ := Lib.hid hq
  have HSe := Lib.hid hsent
  obtain ⟨i0, hi1, hz0, hz1, hz2⟩ := info_parts infoSent
  have hi0 := Lib.hid (And.intro hi1 (And.intro hz0 (And.intro hz1 hz2)))
  clear hi1 hz0 hz1 hz2 hR hQ hE hb hr hq hall hsent hf
  go_enter Try.func48, Try.ntmps48
  go_wp2_with (go_at_call 68; refine HI.out.mono ?_; rintro e w1 ⟨R1, E1, a1, c1, vs1, rfl, h1, h2, h3, h4⟩; have H1 := Lib.hid h1; have H2 := Lib.hid h2; have H3 := Lib.hid h3; have H4 := Lib.hid h4; have hc1' := h4.cell hc1 (fun f => f); have hcl := World.block_lt_of_cell? _ _ hc1'; clear h1 h2 h3 h4)
  have hcp := copy_end (t := 113) (P := []) H1.out H2.out H3.out H4.out (SRows.none_ w1) (fun _ f => f.elim) (fun _ f => f.elim) (Upd.refl _ _)
  have HC := Lib.hid hcp
  have hu1 : Upd Nil w (w1.alloc (.cells #[.slice a1 B.length c1, .slice none 0 0] 113)) := H4.out.alloc _
  have HU1 := Lib.hid hu1
  clear hcp hu1
  go_loopg [15] P.length (fun k i wr => ∃ j : Nat, j + k = P.length ∧ i = .int .i64 j ∧ ∃ Fc, XRep Fc wr w1.heap.size B (P.take j) ∧ (∀ k, Fc k → Fr w wr k) ∧ Upd Nil w wr)
  case atStart => exact ⟨0, by omega, rfl, _, HC.out, fun _ h => h, HU1.out⟩
  case round =>
    obtain ⟨j, hjk, rfl, Fc, hrep, hFc, hup⟩ := hrel
    have hjn : j ≤ P.length := by omega
    have HJ := Lib.hid hjk
    have HR := Lib.hid hrep
    have HU := Lib.hid hup
    have HFc := Lib.hid hFc
    clear hjk hrep hup hFc
    by_cases hlt : j < P.length
    · have htk := List.take_succ_eq_append_getElem hlt
      have hxl := (HF0.out.sent _ (List.getElem_mem hlt)).2
      obtain ⟨b, v, rfl, _, hcA0, hcB0, hel0⟩ := sentAt HQ.out HSe.out hlt
      have hcA := HU.out.cell hcA0 (fun f => f)
      have hcB := HU.out.cell hcB0 (fun f => f)
      have hel := hel0.keep HU.out
      obtain ⟨⟨i, xs⟩, hij⟩ : ∃ q, P[j] = q := ⟨_, rfl⟩
      rw [hij] at htk hcA hel hxl
      obtain ⟨ax, cx, rfl, hrx, hnx, _⟩ := hel
      obtain ⟨R', Q', E', a', c', vs', p', d', us', hFs', hR', hQ', hE', hb', hr', hq', hall', hs'⟩ := HR.out
      have hlj : (P.take j).length = j := by rw [List.length_take]; omega
      rw [hlj] at hb' hq'
      have hd1 : wr.cell? ⟨w1.heap.size, 1, none⟩ = some (.slice p' j d') := hb'.cell 1
      have hslt := hb'.lt
      have HRx := Lib.hid hrx
      have HNx := Lib.hid hnx
      have HXl := Lib.hid hxl
      have HTk := Lib.hid htk
      have HB := Lib.hid hb'
      have HRow := Lib.hid hr'
      have HOq := Lib.hid hq'
      have HAl := Lib.hid hall'
      have HSs := Lib.hid hs'
      have HRs := Lib.hid hR'
      have HQs := Lib.hid hQ'
      have HEs := Lib.hid hE'
      have HD1 := Lib.hid hd1
      have HLj := Lib.hid hlj
      clear hcA0 hcB0 hel0 htk hij hrx hnx hxl hb' hr' hq' hall' hs' hR' hQ' hE' hlj
      go_wp2
      have HUa := Lib.hid ((Upd.refl Nil wr).alloc (.cells #[.int .i64 i, .slice ax xs.length cx] 72))
      have HBx := Lib.hid (Blk.new wr 72 #[.int .i64 i, .slice ax xs.length cx])
      go_region_law (first
        | (go_simp; go_at_call 73; refine (copied02 _ cx (HRx.out.alloc _).drew HNx.out (by rw [HXl.out]; decide)).mono ?_; rintro e w2 ⟨a2, c2, rfl, hown1, hup1⟩
           have hup1 := hup1.ofDrew
           have hown1 : Own (Fr (wr.alloc (.cells #[.int .i64 i, .slice ax xs.length cx] 72)) w2) w2 5 1 a2 xs.length c2 (bvs xs) := hown1
           have hd2 := hup1.cell (HUa.out.cell HD1.out (fun f => f)) (fun f => f)
           have hx0 : w2.cell? ⟨wr.heap.size, 0, none⟩ = some (.int .i64 i) := (HBx.out.upd hup1 (fun f => f)).cell 0
           have hx1 : w2.cell? ⟨wr.heap.size, 1, none⟩ = some (.slice ax xs.length cx) := (HBx.out.upd hup1 (fun f => f)).cell 1
           have hlt2 : w1.heap.size < w2.heap.size := World.block_lt_of_cell? w2 _ hd2
           have HO1 := Lib.hid hown1; have HU2 := Lib.hid hup1; clear hown1 hup1)
        | (refine step_append_Own rfl (.tmp 23) (.tmp 30) 69 rfl Try.underlying69 hi0.out.1 hi0.out.2.1 hi0.out.2.2.1 hi0.out.2.2.2 rfl (by decide) rfl (((HOq.out.keep HUa.out).keep HU2.out).alloc _) rfl (Own.lit (t := 72) (sz := 2) w2 #[.int .i64 i, .slice a2 xs.length c2] 1 (by decide) rfl).row (by simp) (by simp [Value.oneCell']) (by intro h; cases h) (by simp only [maxLen]; omega) (by omega) ?_
           intro a3 c3 w3 hown2 hup2 hne2
           have hb2 := (((HB.out.upd HUa.out (fun f => f)).upd HU2.out (fun f => f)).alloc (.cells #[.int .i64 i, .slice a2 xs.length c2] 72)).upd hup2 (fun f => (HQs.out _ f).2.1 rfl)
           have HO2 := Lib.hid hown2; have HU3 := Lib.hid hup2; clear hown2 hup2 hne2
           have he0 := hb2.cell 1; have hf0 := hb2.frozen 1
           clear hb2))
      all_goals go_wp2
      all_goals go_roundg (gk - 1)
      all_goals first
        | (have := HJ.out; omega)
        | (have hup : Upd Nil wr w2 := HUa.out.trans HU2.out (fun _ f _ => f)
           have hown : Own (Fr wr w2) w2 5 1 a2 xs.length c2 (bvs xs) := HO1.out.mono (fun k hk => ⟨by have := hk.1; simp only [World.size_alloc] at this; omega, hk.2⟩)
           have hl := HLj.out
           obtain ⟨F', hrep, hupF, hF⟩ := write_end (t := 113) (P := P.take j) hFs' HRs.out HQs.out HEs.out (by rw [hl]; exact HB.out) HRow.out HAl.out HSs.out hown hup (by rw [hl]; exact HO2.out) HU3.out
           rw [hl] at hrep hupF hF
           have hz0 := HU.out.size
           have hz1 := hupF.size
           refine ⟨j + 1, by have := HJ.out; omega, by go_num, F', ?_, ?_, ?_⟩
           · rw [HTk.out]
             exact hrep
           · intro k hk
             rcases hF k hk with h | h
             · have := HFc.out k h
               exact ⟨this.1, by have := this.2; omega⟩
             · exact ⟨by have := h.1; omega, h.2⟩
           · exact HU.out.trans hupF (fun k hk hlt => by have := (HFc.out k hk).1; omega))
    · obtain rfl : j = P.length := by omega
      have hr := HR.out
      rw [List.take_length] at hr
      go_wp2
      go_ret
      exact ⟨_, Fc, rfl, hr, HFc.out, HU.out⟩
end Go.Proofs.Ytbaombnnagidcaa
