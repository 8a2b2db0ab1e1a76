/- DiskKeeps: behind a crash each sector has what the last kept write had, or what it had ahead; for every list of calls and every list of bools. -/
import Derived.Test.YtbaombnnagidcaaOpen02
import Derived.Test.YtbaombnnagidcaaMarks
import Derived.Test.YtbaombnnagidcaaSame
import Derived.Deep.Grids
namespace Go.Proofs.Ytbaombnnagidcaa.diskKeeps
open Go.RowKit Go.Deep Go.WideShapes Go.ChangeShapes Go.ChangeAt

/-- is place i kept? -/
def bit (bl : List Bool) (i : Nat) : Bool := bl[i]?.getD false
/-- the places ahead of j that are kept, from behind -/
def places (bl : List Bool) (j : Nat) : List Int := (((List.range j).filter (bit bl)).map Int.ofNat).reverse
theorem places_succ (bl : List Bool) (j : Nat) : places bl (j + 1) = if bit bl j then (j : Int) :: places bl j else places bl j := by
  simp only [places, List.range_succ, List.filter_append]
  cases h : bit bl j <;> simp [h]
theorem mem_places {bl : List Bool} {j : Nat} {k : Int} : k ∈ places bl j ↔ ∃ i : Nat, i < j ∧ bit bl i = true ∧ (i : Int) = k := by
  simp [places]
  constructor
  · rintro ⟨i, ⟨h1, h2⟩, h3⟩; exact ⟨i, h1, h2, h3⟩
  · rintro ⟨i, h1, h2, h3⟩; exact ⟨i, ⟨h1, h2⟩, h3⟩
theorem nodup_places (bl : List Bool) : ∀ j, (places bl j).Nodup
  | 0 => by simp [places]
  | j + 1 => by
    rw [places_succ]
    split
    · refine List.nodup_cons.2 ⟨fun h => ?_, nodup_places bl j⟩
      obtain ⟨i, h1, _, h2⟩ := mem_places.1 h
      omega
    · exact nodup_places bl j
theorem length_places (bl : List Bool) (j : Nat) : (places bl j).length ≤ j := by
  simp only [places, List.length_reverse, List.length_map]
  exact Nat.le_trans (List.length_filter_le _ _) (by simp)
theorem mark_places (bl : List Bool) (m : Nat) : mark (List.replicate m false) (places bl m) = some ((List.range m).map (bit bl)) := by
  refine mark_bits (fun k hk => ?_) (nodup_places bl m) (fun i hi => ?_)
  · obtain ⟨i, h1, _, rfl⟩ := mem_places.1 hk
    omega
  · rw [Bool.eq_iff_iff, decide_eq_true_iff, mem_places]
    constructor
    · rintro ⟨q, _, h, e⟩
      obtain rfl : q = i := by omega
      exact h
    · intro h
      exact ⟨i, hi, h, rfl⟩
theorem kept_step (bl : List Bool) (P : List Snt) {j : Nat} (hj : j < P.length) : kept (((List.range P.length).map (bit bl)).take (j + 1)) (P.take (j + 1)) = kept (((List.range P.length).map (bit bl)).take j) (P.take j) ++ (if bit bl j then [P[j]] else []) := by
  have := kept_snoc (st := (List.range P.length).map (bit bl)) (l := P) j (by simpa using hj) hj
  simpa using this

theorem ivs_one (ks : List Int) : ∀ u ∈ ivs ks, u.oneCell' = true := by
  intro u hu
  obtain ⟨x, _, rfl⟩ := List.mem_map.1 hu
  rfl
theorem infoInt : (Try.prog.info? 3).map (fun i => (i.zero, i.size, i.bytes)) = some (some (.int .i64 0), 1, 8) := by kernel_rfl

theorem fine_four (d : Nat → DoD) (n : Nat) : Fine four (writesOf d n) := by
  refine ⟨by rw [length_four]; decide, by rw [length_four]; decide, fun b hb => ?_, fun p hp => ?_⟩
  · rw [four] at hb
    rw [List.eq_of_mem_replicate hb, length_noughts]
  · obtain ⟨j, _, rfl⟩ := List.mem_map.1 hp
    exact ⟨by rw [length_four]; exact place_writeOf _, length_writeOf _⟩

set_option maxRecDepth 100000 in
set_option maxHeartbeats 4000000 in
theorem walk (w : World) {a : Option Addr} {n : Nat} (c : Nat) {d : Nat → DoD} (h : Calls02 w a n d) (hn : n ≤ 9223372036854775807) {wa : Option Addr} (wc : Nat) {bl : List Bool} (hbl : Row (Old w) w wa (bls bl)) (hbn : bl.length ≤ 9223372036854775807) :
    Calls Try.prog 7 #[.slice a n c, .slice wa bl.length wc] w fun e w' => e = .returned (.bool true) ∧ Upd Nil w w' := by
  have HWr := Lib.hid (written w c h hn)
  have hfine := fine_four d n
  have hPl : (writesOf d n).length ≤ 40 := by rw [length_writesOf]; omega
  obtain ⟨P, hP⟩ : ∃ P, writesOf d n = P := ⟨_, rfl⟩
  rw [hP] at HWr hfine hPl
  have HFi := Lib.hid hfine
  have HBl := Lib.hid hbl
  have HPl := Lib.hid hPl
  have h4 := length_four
  obtain ⟨i0, hi, hz0, hz1, hz2⟩ := info_parts infoInt
  have hi0 := Lib.hid (And.intro hi (And.intro hz0 (And.intro hz1 hz2)))
  clear h hbl hfine hP hi hz0 hz1 hz2
  have H4 := Lib.hid h4
  clear h4
  go_enter Try.func7, Try.ntmps7
  go_wp2_with (first
    | (go_at_call 34; refine HWr.out.mono ?_; rintro e w1 ⟨s, F, rfl, hb, hF, hu⟩; have HB1 := Lib.hid hb; have HF := Lib.hid hF; have HU1 := Lib.hid hu; clear hb hF hu)
    | (go_at_call 35; refine (disk_Image _ HB1.out (by rw [H4.out]; decide) (fun x hx => by rw [HFi.out.size x hx]; decide)).mono ?_; rintro e w2 ⟨R, E, a0, c0, vs, rfl, h1, h2, h3, h4⟩; have HI1 := Lib.hid h1; have HI2 := Lib.hid h2; have HI3 := Lib.hid h3; have HU2 := Lib.hid h4; clear h1 h2 h3 h4)
    | (go_at_call 36; refine (disk_Pending _ (HB1.out.upd HU2.out (fun _ _ f => f)) (by have := HPl.out; omega) (fun x hx => by rw [(HFi.out.sent x hx).2]; decide)).mono ?_; rintro e w3 ⟨Q, E2, p, q, us, rfl, h1, h2, h3, h4⟩; have HS1 := Lib.hid h1; have HS2 := Lib.hid h2; have HS3 := Lib.hid h3; have HU3 := Lib.hid h4; clear h1 h2 h3 h4))
  have hpos : four.length ≠ 0 := by rw [H4.out]; decide
  obtain ⟨g, rfl, hRg⟩ := HI1.out.own.isNone hpos
  clear hpos
  go_loopg [7, 19] P.length (fun k v i wr => ∃ j : Nat, j + k = P.length ∧ i = .int .i64 j ∧ ∃ (K : Nat → Prop) (ka : Option Addr) (kc : Nat) (vs' : List Value), v = .slice ka (places bl j).length kc ∧
    Own K wr 3 1 ka (places bl j).length kc (ivs (places bl j)) ∧ (∀ k, K k → Fr w3 wr k) ∧
    Own R wr 25 1 (some ⟨g, 0, none⟩) four.length c0 vs' ∧ All2 (Elem (fun k => E k ∨ E2 k) wr) vs' (applyP four (kept (((List.range P.length).map (bit bl)).take j) (P.take j))) ∧ Upd R w3 wr)
  case atStart =>
    refine ⟨0, by omega, rfl, Nil, none, 0, vs, rfl, Own.none_ _ _ _ _, fun _ f => f.elim, HI1.out.own.keep HU3.out, ?_, Upd.refl _ _⟩
    have := HI1.out.all.mono (fun v x h => (h.keep HU3.out).mono (fun k h => Or.inl (b := E2 k) h))
    simpa [kept, applyP] using this
  case round =>
    obtain ⟨j, hjk, rfl, K, ka, kc, vs', rfl, hown, hK, hwant, hall, hup⟩ := hrel
    have hjn : j ≤ P.length := by omega
    have HJ := Lib.hid hjk
    have HO := Lib.hid hown
    have HK := Lib.hid hK
    have HW := Lib.hid hwant
    have HA := Lib.hid hall
    have HU := Lib.hid hup
    clear hjk hown hK hwant hall hup
    by_cases hlt : j < P.length
    · have hsent := HFi.out.sent _ (List.getElem_mem hlt)
      have hkst := kept_step bl P hlt
      have hps := places_succ bl j
      have hpl := length_places bl j
      obtain ⟨b, v, rfl, hQb, hcA0, hcB0, hel0⟩ := sentAt HS1.out.own HS1.out.all hlt
      have hnR : ∀ k, (Q k ∨ E2 k) → ¬ R k := by
        intro k hk hr
        have h1 := (HI2.out k hr).2
        rcases hk with h | h
        · have := (HS2.out k h).1
          omega
        · have := (HS3.out k h).1
          omega
      have hcA := HU.out.cell hcA0 (hnR b (.inl hQb))
      have hcB := HU.out.cell hcB0 (hnR b (.inl hQb))
      have hel := hel0.upd HU.out (fun k hk => hnR k (.inr hk))
      obtain ⟨⟨i, xs⟩, hij⟩ : ∃ q, P[j] = q := ⟨_, rfl⟩
      rw [hij] at hsent hkst hcA hel
      obtain ⟨ax, cx, rfl⟩ : ∃ ax cx, v = .slice ax xs.length cx := by obtain ⟨ax, cx, e, _⟩ := hel; exact ⟨ax, cx, e⟩
      have hi4 : i < four.length := hsent.1
      have HEl := Lib.hid hel
      have HKs := Lib.hid hkst
      have HSe := Lib.hid hsent
      have HPs := Lib.hid hps
      have HNR := Lib.hid hnR
      clear hcA0 hcB0 hel0 hel hkst hsent hij hnR hps
      obtain ⟨W1, hW1⟩ : ∃ W1, wr.alloc (.cells #[.int .i64 i, .slice ax xs.length cx] 72) = W1 := ⟨_, rfl⟩
      have hU1 : Upd Nil wr W1 := by rw [← hW1]; exact (Upd.refl Nil wr).alloc _
      have hB1 : Blk W1 wr.heap.size 72 #[.int .i64 i, .slice ax xs.length cx] := by rw [← hW1]; exact Blk.new wr _ _
      clear hU1 hB1 hW1
      by_cases hjb : j < bl.length
      · obtain ⟨wb, wo, rfl, hold, hcw0⟩ := rowAt HBl.out (bls_get hjb)
        have hcw : wr.cell? ⟨wb, wo + j, none⟩ = some (.bool bl[j]) := by
          refine HU.out.cell (HU3.out.cell (HU2.out.cell (HU1.out.cell hcw0 (fun f => f)) (fun f => f)) (fun f => f)) (fun hr => ?_)
          have h1 := (HI2.out wb hr).1
          have h2 := HU1.out.size
          have h3 : wb < w.heap.size := hold
          omega
        have hcw1 := ((Upd.refl Nil wr).alloc (.cells #[.int .i64 i, .slice ax xs.length cx] 72)).cell hcw (fun f => f)
        obtain ⟨bt, hbt⟩ : ∃ bt, bl[j] = bt := ⟨_, rfl⟩
        have hbit : bit bl j = bt := by rw [bit, List.getElem?_eq_getElem hjb, hbt]; rfl
        rw [hbt] at hcw hcw1
        clear hcw0 hbt
        cases bt
        · go_wp2
          go_roundg (gk - 1)
          case measure => have := HJ.out; omega
          case rel =>
            have hps := HPs.out
            have hks := HKs.out
            rw [hbit] at hps hks
            simp only [Bool.false_eq_true, if_false, List.append_nil] at hps hks
            have al : Upd Nil wr (wr.alloc (.cells #[.int .i64 i, .slice ax xs.length cx] 72)) := (Upd.refl Nil wr).alloc _
            refine ⟨j + 1, by have := HJ.out; omega, by go_num, K, ka, kc, vs', by rw [hps], by rw [hps]; exact HO.out.keep al, fun k hk => ?_, HW.out.keep al, by rw [hks]; exact HA.out.mono (fun v x h => h.keep al), HU.out.trans al (fun _ f _ => f.elim)⟩
            have := HK.out k hk
            exact ⟨this.1, Nat.lt_of_lt_of_le this.2 al.size⟩
        · have hU1 : Upd Nil wr (wr.alloc (.cells #[.int .i64 i, .slice ax xs.length cx] 72)) := (Upd.refl Nil wr).alloc _
          have hB1 : Blk (wr.alloc (.cells #[.int .i64 i, .slice ax xs.length cx] 72)) wr.heap.size 72 #[.int .i64 i, .slice ax xs.length cx] := Blk.new wr _ _
          have hs1 : (wr.alloc (.cells #[.int .i64 i, .slice ax xs.length cx] 72)).heap.size = wr.heap.size + 1 := by simp
          have HUW := Lib.hid hU1
          have HBW := Lib.hid hB1
          have HSz := Lib.hid hs1
          have hRlt : ∀ k, R k → k < wr.heap.size := fun k hk => by have := (HI2.out k hk).2; have := HU3.out.size; have := HU.out.size; omega
          have HRl := Lib.hid hRlt
          have hlit := Own.lit (t := 3) (sz := 1) (wr.alloc (.cells #[.int .i64 i, .slice ax xs.length cx] 72)) #[.int .i64 j] 1 (by decide) rfl
          rw [World.size_alloc] at hlit
          have HLit := Lib.hid hlit
          clear hU1 hB1 hs1 hRlt hlit
          go_wp2_with (at_builtin; refine wpList_append_Own rfl (.tmp 35) (.tmp 36) 68 rfl Try.underlying68 hi0.out.1 hi0.out.2.1 hi0.out.2.2.1 hi0.out.2.2.2 rfl (by decide) rfl HLit.out rfl ((HO.out.keep HUW.out).alloc _).row (by simp) (ivs_one _) HO.out.noneCap (by simp only [maxLen]; omega) (by omega) ?_
                       intro a2 c2 w2' hown2 hup2 hne2
                       have hb2 := (HBW.out.alloc (.cells #[.int .i64 j] 3)).upd hup2 (fun f => by have f' : wr.heap.size = wr.heap.size + 1 := f; omega)
                       have hx0 : w2'.cell? ⟨wr.heap.size, 0, none⟩ = some (.int .i64 i) := hb2.cell 0
                       have hx1 : w2'.cell? ⟨wr.heap.size, 1, none⟩ = some (.slice ax xs.length cx) := hb2.cell 1
                       have hw2 := ((HW.out.keep HUW.out).alloc (.cells #[.int .i64 j] 3)).upd hup2 (fun k hk f => by have f' : k = wr.heap.size + 1 := f; have := HRl.out k hk; omega)
                       have hf2 : w2'.frozen? ⟨g, i, none⟩ = false := hw2.frozen rfl i
                       obtain ⟨u, hu⟩ := hw2.there rfl (j := i) (by have := hw2.le; omega)
                       have HO2 := Lib.hid hown2; have HU2' := Lib.hid hup2; have HW2 := Lib.hid hw2; clear hown2 hup2 hne2 hb2 hw2)
          go_roundg (gk - 1)
          case measure => have := HJ.out; omega
          case rel =>
            have hps := HPs.out
            have hks := HKs.out
            rw [hbit] at hps hks
            simp only [if_true] at hps hks
            have hlen : (places bl (j + 1)).length = 1 + (places bl j).length := by rw [hps, List.length_cons]; omega
            have hz0 := HU.out.size
            have hz2 := HU2'.out.size
            simp only [World.size_alloc] at hz2
            have one : Upd (One g) w2' (w2'.setCell ⟨g, i, none⟩ (.slice ax xs.length cx)) := (Upd.refl (One g) w2').setCell (p := ⟨g, i, none⟩) (.inl rfl) _
            have hgl := HRl.out g hRg
            have uW : Upd (One (wr.heap.size + 1)) wr w2' := ((((Upd.refl Nil wr).alloc (.cells #[.int .i64 i, .slice ax xs.length cx] 72)).alloc (.cells #[.int .i64 j] 3)).ofNil).trans HU2'.out (fun k hk _ => hk)
            have hE2lt : ∀ k, (E k ∨ E2 k) → k ≠ wr.heap.size + 1 ∧ k ≠ g := by
              rintro k (h | h)
              · have h1 := (HI3.out k h).2
                have h2 := HU3.out.size
                exact ⟨by omega, fun e => HI1.out.apart k h (e ▸ hRg)⟩
              · have h1 := (HS3.out k h).2
                exact ⟨by omega, fun e => HNR.out k (.inr h) (e ▸ hRg)⟩
            refine ⟨j + 1, by have := HJ.out; omega, by go_num, Fr wr w2', a2, c2, vs'.set i (.slice ax xs.length cx), by rw [hlen], ?_, ?_, ?_, ?_, ?_⟩
            · rw [hlen, hps]
              refine (HO2.out.mono (F' := Fr wr w2') ?_).upd one (fun k hk e => by have e' : k = g := e; have := hk.1; omega)
              rintro k (h | ⟨h1, h2⟩)
              · have h' : k = wr.heap.size + 1 := h
                exact ⟨by omega, by omega⟩
              · simp only [World.size_alloc] at h1
                exact ⟨by omega, h2⟩
            · rintro k ⟨h1, h2⟩
              exact ⟨by omega, by simpa using h2⟩
            · exact HW2.out.stored rfl i _
            · rw [hks, applyP_snoc]
              refine (HA.out.mono (fun v x h => (h.upd uW (fun k hk e => (hE2lt k hk).1 e)).upd one (fun k hk e => (hE2lt k hk).2 e))).set i ?_
              exact (((HEl.out.mono (fun k h => Or.inr (a := E k) h)).upd uW (fun k hk e => (hE2lt k hk).1 e)).upd one (fun k hk e => (hE2lt k hk).2 e))
            · refine HU.out.trans ((uW.mono (G' := fun k => k = wr.heap.size + 1 ∨ R k) (fun k h => Or.inl h)).setCell (p := ⟨g, i, none⟩) (.inl (.inr hRg)) _) (fun k hk hlt => ?_)
              rcases hk with h | h
              · omega
              · exact h
      · have hbit : bit bl j = false := by rw [bit, List.getElem?_eq_none (by omega)]; rfl
        have : True := trivial
        · go_wp2
          go_roundg (gk - 1)
          case measure => have := HJ.out; omega
          case rel =>
            have hps := HPs.out
            have hks := HKs.out
            rw [hbit] at hps hks
            simp only [Bool.false_eq_true, if_false, List.append_nil] at hps hks
            have al : Upd Nil wr (wr.alloc (.cells #[.int .i64 i, .slice ax xs.length cx] 72)) := (Upd.refl Nil wr).alloc _
            refine ⟨j + 1, by have := HJ.out; omega, by go_num, K, ka, kc, vs', by rw [hps], by rw [hps]; exact HO.out.keep al, fun k hk => ?_, HW.out.keep al, by rw [hks]; exact HA.out.mono (fun v x h => h.keep al), HU.out.trans al (fun _ f _ => f.elim)⟩
            have := HK.out k hk
            exact ⟨this.1, Nat.lt_of_lt_of_le this.2 al.size⟩
    · obtain rfl : j = P.length := by omega
      have hr0 := ((HB1.out.inHeap.upd HU2.out (fun _ _ f => f)).upd HU3.out (fun _ _ f => f)).upd HU.out (fun k hk hr => by have := (HI2.out k hr).1; have := hk.2; omega)
      have HR0 := Lib.hid hr0
      have HM := Lib.hid (mark_places bl P.length)
      have ha := HA.out
      rw [List.take_length, List.take_of_length_le (l := (List.range P.length).map (bit bl)) (by simp)] at ha
      obtain ⟨st, hst⟩ : ∃ st, (List.range P.length).map (bit bl) = st := ⟨_, rfl⟩
      rw [hst] at ha HM
      have HA9 := Lib.hid ha
      have hsz9 : ∀ b ∈ applyP four (kept st P), b.length = 128 := size_applyP HFi.out.size (fun p hp => (HFi.out.sent p (kept_mem hp)).2)
      have HSz := Lib.hid hsz9
      have hl9 : (applyP four (kept st P)).length = 4 := by rw [length_applyP, length_four]
      have HL9 := Lib.hid hl9
      have hq4 : ((four.length : Int) == 4) = true := by rw [length_four]; rfl
      clear hr0 ha hst hsz9 hl9 HA
      go_wp2_with (first
        | (go_at_call 37; refine (disk_Crash _ HR0.out HFi.out (by have := HPl.out; omega) kc HO.out.row (by have := length_places bl P.length; have := HPl.out; omega)).mono ?_; rintro e w4 hcg; rw [CrashGot, HM.out] at hcg; obtain ⟨rfl, F4, hb4, hu4, hF4⟩ := hcg; have HB4 := Lib.hid hb4; have HU4 := Lib.hid hu4; clear hb4 hu4 hF4)
        | (go_at_call 35; refine (disk_Image _ HB4.out (by rw [HL9.out]; decide) (fun x hx => by rw [HSz.out x hx]; decide)).mono ?_; rintro e w5 ⟨R5, E5, a5, c5, vs5, rfl, h1, h2, h3, h4⟩; have HI5 := Lib.hid h1; have HU5 := Lib.hid h4; clear h1 h2 h3 h4)
        | (go_at_call 33; refine (sameImage_yes _ c5 c0 HI5.out.own.row ((HW.out.upd HU4.out (fun k hk f => by have := (HI2.out k hk).1; have := f.2; omega)).keep HU5.out).row HI5.out.all (HA9.out.mono (fun v x h => ((h.upd HU4.out (fun k hk f => by rcases hk with hk | hk; (have := (HI3.out k hk).1; have := f.2; omega); (have := (HS3.out k hk).1; have := HU2.out.size; have := f.2; omega))).keep HU5.out))) rfl (by rw [HL9.out, H4.out]) (by rw [HL9.out]; decide)).mono ?_; rintro e w6 ⟨rfl, rfl⟩))
      go_ret
      refine ⟨rfl, ?_⟩
      refine ((((HU1.out.trans HU2.out (fun _ f _ => f)).trans HU3.out (fun _ f _ => f)).trans HU.out (fun k hk hlt => ?_)).trans HU4.out (fun k hk hlt => ?_)).trans HU5.out (fun _ f _ => f)
      · have := (HI2.out k hk).1
        have := HU1.out.size
        omega
      · have := (HF.out k hk.1).1
        omega
end Go.Proofs.Ytbaombnnagidcaa.diskKeeps
