/- DiskCrashes: a crash that keeps all is a flush, one that keeps nothing leaves the image; what is read is the last write; for every list of calls. -/
import Derived.Test.YtbaombnnagidcaaOpen02
import Derived.Test.YtbaombnnagidcaaMarks
import Derived.Test.YtbaombnnagidcaaRawMap
namespace Go.Proofs.Ytbaombnnagidcaa.diskCrashes
open Go.RowKit Go.Deep Go.WideShapes Go.ChangeShapes Go.ChangeAt

/-- the places ahead of j -/
def firsts (j : Nat) : List Int := (List.range j).map Int.ofNat
theorem firsts_succ (j : Nat) : firsts (j + 1) = firsts j ++ [(j : Int)] := by simp [firsts, List.range_succ]
theorem length_firsts (j : Nat) : (firsts j).length = j := by simp [firsts]
theorem ivs_succ (j : Nat) : ivs (firsts (j + 1)) = ivs (firsts j) ++ [.int .i64 (j : Int)] := by simp [firsts_succ, ivs]
theorem nodup_firsts (j : Nat) : (firsts j).Nodup := by
  unfold firsts List.Nodup
  rw [List.pairwise_map]
  refine (List.nodup_range (n := j)).imp (fun {a b} h e => h ?_)
  have : (a : Int) = b := e
  omega
theorem mem_firsts {j : Nat} {k : Int} : k ∈ firsts j ↔ 0 ≤ k ∧ k < j := by
  simp only [firsts, List.mem_map, List.mem_range]
  constructor
  · rintro ⟨i, h, rfl⟩
    exact ⟨Int.natCast_nonneg i, by show (i : Int) < j; omega⟩
  · intro h
    exact ⟨k.toNat, by omega, by show (k.toNat : Int) = k; omega⟩
theorem mark_firsts (m : Nat) : mark (List.replicate m false) (firsts m) = some (List.replicate m true) := by
  rw [mark_bits (β := fun _ => true) (fun k hk => mem_firsts.1 hk) (nodup_firsts m) (fun i hi => by rw [decide_eq_true (mem_firsts.2 (by omega))])]
  congr 1
  rw [List.map_const', List.length_range]
theorem kept_true : ∀ l : List Snt, kept (List.replicate l.length true) l = l
  | [] => rfl
  | p :: l => by simp [List.replicate_succ, kept, kept_true l]
theorem kept_false : ∀ l : List Snt, kept (List.replicate l.length false) l = []
  | [] => rfl
  | p :: l => by simp [List.replicate_succ, kept, kept_false l]

theorem ivs_one (ks : List Int) : ∀ u ∈ ivs ks, u.oneCell' = true := by
  intro u hu
  obtain ⟨x, _, rfl⟩ := List.mem_map.1 hu
  rfl
theorem infoInt : (Try.prog.info? 3).map (fun i => (i.zero, i.size, i.bytes)) = some (some (.int .i64 0), 1, 8) := by kernel_rfl

theorem fine_four (d : Nat → DoD) (n : Nat) : Fine four (writesOf d n) := by
  refine ⟨by rw [length_four]; decide, by rw [length_four]; decide, fun b hb => ?_, fun p hp => ?_⟩
  · rw [four] at hb
    rw [List.eq_of_mem_replicate hb, length_noughts]
  · obtain ⟨j, _, rfl⟩ := List.mem_map.1 hp
    exact ⟨by rw [length_four]; exact place_writeOf _, length_writeOf _⟩

/-- Crash with all of the places, and with none -/
theorem crash_all {F G : Nat → Prop} (w : World) {s : Nat} {B : List (List UInt8)} {P : List Snt} (h : DiskRep F w s B P) (hf : Fine B P) (hP : P.length ≤ 40) {ka : Option Addr} (kc : Nat) (hk : Row G w ka (ivs (firsts P.length))) :
    Calls Try.prog 37 #[.pointer (some ⟨s, 0, none⟩), .slice ka P.length kc] w (DGot 78 F w s (.int .i64 0) (applyP B P) []) := by
  have := disk_Crash w h hf (by omega) kc hk (by rw [length_firsts]; omega)
  rw [length_firsts] at this
  refine this.mono fun e w' hc => ?_
  rw [CrashGot, mark_firsts] at hc
  dsimp only at hc
  rwa [kept_true] at hc
theorem crash_none {F : Nat → Prop} (w : World) {s : Nat} {B : List (List UInt8)} {P : List Snt} (h : DiskRep F w s B P) (hf : Fine B P) (hP : P.length ≤ 40) :
    Calls Try.prog 37 #[.pointer (some ⟨s, 0, none⟩), .slice none 0 0] w (DGot 78 F w s (.int .i64 0) B [] ) := by
  have := disk_Crash (G := Nil) w h hf (by omega) 0 (ks := []) (Row.nil _ _ none) (by decide)
  refine this.mono fun e w' hc => ?_
  rw [CrashGot] at hc
  simp only [mark] at hc
  rwa [kept_false, show applyP B [] = B from rfl] at hc
theorem pending_none {F : Nat → Prop} (w : World) {s : Nat} {B : List (List UInt8)} (h : DiskRep F w s B []) :
    Calls Try.prog 36 #[.pointer (some ⟨s, 0, none⟩)] w fun e w' => (∃ p q, e = .returned (.slice p 0 q)) ∧ Upd Nil w w' :=
  (disk_Pending w h (by decide) (fun x hx => by cases hx)).mono fun e w' ⟨_, _, p, q, _, he, _, _, _, hu⟩ => ⟨⟨p, q, he⟩, hu⟩

theorem read_is {F : Nat → Prop} (w : World) {s : Nat} {B : List (List UInt8)} {P : List Snt} (h : DiskRep F w s B P) (hfine : Fine B P) (hP : P.length ≤ 40) {i : Nat} (hi : i < B.length) {xs : List UInt8} (hx : readOf B P i hi = xs) :
    Calls Try.prog 38 #[.pointer (some ⟨s, 0, none⟩), .int .i64 i] w (ToldBytes w xs) := by
  subst hx
  exact disk_Read_yes w h hfine (by omega) hi

set_option maxRecDepth 100000 in
set_option maxHeartbeats 4000000 in
theorem walk (w : World) {a : Option Addr} {n : Nat} (c : Nat) {d : Nat → DoD} (h : Calls02 w a n d) (hn : n ≤ 9223372036854775807) :
    Calls Try.prog 9 #[.slice a n c] w fun e w' => e = .returned (.bool true) ∧ Upd Nil w w' := by
  have HWr := Lib.hid (written w c h hn)
  have hfine := fine_four d n
  have hPn := length_writesOf d n
  obtain ⟨P, hP⟩ : ∃ P, writesOf d n = P := ⟨_, rfl⟩
  rw [hP] at HWr hfine hPn
  have hPl : P.length ≤ 40 := by omega
  have HFi := Lib.hid hfine
  have HPl := Lib.hid hPl
  have HPn := Lib.hid hPn
  have h4 := length_four
  obtain ⟨i0, hi, hz0, hz1, hz2⟩ := info_parts infoInt
  have hi0 := Lib.hid (And.intro hi (And.intro hz0 (And.intro hz1 hz2)))
  have hmm := @run_makeMap Try.prog
  clear h hfine hP hPn hi hz0 hz1 hz2
  have H4 := Lib.hid h4
  clear h4
  go_enter Try.func9, Try.ntmps9
  go_wp2_with (first
    | (go_at_call 34; refine HWr.out.mono ?_; rintro e w1 ⟨s, F, rfl, hb, hF, hu⟩; have HB1 := Lib.hid hb; have HF := Lib.hid hF; have HU1 := Lib.hid hu; clear hb hF hu)
    | (go_at_call 35; refine (disk_Image _ HB1.out (by rw [H4.out]; decide) (fun x hx => by rw [HFi.out.size x hx]; decide)).mono ?_; rintro e w2 ⟨R, E, a0, c0, vs, rfl, h1, h2, h3, h4⟩; have HI1 := Lib.hid h1; have HI2 := Lib.hid h2; have HI3 := Lib.hid h3; have HU2 := Lib.hid h4; clear h1 h2 h3 h4)
    | (go_at_call 36; refine (disk_Pending _ ((HB1.out.upd HU2.out (fun _ _ f => f)).upd ((Upd.refl Nil w2).alloc (.map #[] 0)) (fun _ _ f => f)) (by have := HPl.out; omega) (fun x hx => by rw [(HFi.out.sent x hx).2]; decide)).mono ?_; rintro e w3 ⟨Q, E2, p, q, us, rfl, h1, h2, h3, h4⟩; have HS1 := Lib.hid h1; have HS2 := Lib.hid h2; have HS3 := Lib.hid h3; have HU3 := Lib.hid h4; clear h1 h2 h3 h4))
  have hpos : four.length ≠ 0 := by rw [H4.out]; decide
  obtain ⟨g, rfl, hRg⟩ := HI1.out.own.isNone hpos
  clear hpos
  have hmb := RawMap.made w2
  have HMb := Lib.hid hmb
  have hz3 := HU3.out.size
  simp only [World.size_alloc] at hz3
  clear hmb
  go_loopg [5, 27] P.length (fun k v i wr => ∃ j : Nat, j + k = P.length ∧ i = .int .i64 j ∧ ∃ (K : Nat → Prop) (ka : Option Addr) (kc : Nat) (D : DataW Value), v = .slice ka j kc ∧
    Own K wr 3 1 ka j kc (ivs (firsts j)) ∧ (∀ k, K k → Fr w3 wr k) ∧ RawMap wr w2.heap.size j D ∧ Lasts E2 wr D (P.take j) ∧ Upd (One w2.heap.size) w3 wr)
  case atStart =>
    exact ⟨0, by omega, rfl, Nil, none, 0, _, rfl, Own.none_ _ _ _ _, fun _ f => f.elim, HMb.out.upd HU3.out (fun f => f), Lasts.start _ _, Upd.refl _ _⟩
  case round =>
    obtain ⟨j, hjk, rfl, K, ka, kc, D, rfl, hown, hK, hmap, hlast, hup⟩ := hrel
    have hjn : j ≤ P.length := by omega
    have HJ := Lib.hid hjk
    have HO := Lib.hid hown
    have HK := Lib.hid hK
    have HM := Lib.hid hmap
    have HLa := Lib.hid hlast
    have HU := Lib.hid hup
    clear hjk hown hK hmap hlast hup
    by_cases hlt : j < P.length
    · have hsent := HFi.out.sent _ (List.getElem_mem hlt)
      have htk := List.take_succ_eq_append_getElem hlt
      obtain ⟨b, v, rfl, hQb, hcA0, hcB0, hel0⟩ := sentAt HS1.out.own HS1.out.all hlt
      have hnR : ∀ k, (Q k ∨ E2 k) → ¬ One w2.heap.size k := by
        intro k hk hr
        have hr' : k = w2.heap.size := hr
        rcases hk with h | h
        · have := (HS2.out k h).1
          simp only [World.size_alloc] at this
          omega
        · have := (HS3.out k h).1
          simp only [World.size_alloc] at this
          omega
      have hcA := HU.out.cell hcA0 (hnR b (.inl hQb))
      have hcB := HU.out.cell hcB0 (hnR b (.inl hQb))
      have hel := hel0.upd HU.out (fun k hk => hnR k (.inr hk))
      obtain ⟨⟨i, xs⟩, hij⟩ : ∃ q, P[j] = q := ⟨_, rfl⟩
      rw [hij] at hsent hcA hel htk
      obtain ⟨ax, cx, rfl⟩ : ∃ ax cx, v = .slice ax xs.length cx := by obtain ⟨ax, cx, e, _⟩ := hel; exact ⟨ax, cx, e⟩
      have hi4 : i < 1000 := by have := hsent.1; rw [length_four] at this; omega
      have HEl := Lib.hid hel
      have HTk := Lib.hid htk
      have HNR := Lib.hid hnR
      clear hcA0 hcB0 hel0 hel htk hsent hij hnR
      have hU1 : Upd Nil wr (wr.alloc (.cells #[.int .i64 i, .slice ax xs.length cx] 72)) := (Upd.refl Nil wr).alloc _
      have hB1 : Blk (wr.alloc (.cells #[.int .i64 i, .slice ax xs.length cx] 72)) wr.heap.size 72 #[.int .i64 i, .slice ax xs.length cx] := Blk.new wr _ _
      have HUW := Lib.hid hU1
      have HBW := Lib.hid hB1
      have hlit := one_row (wr.alloc (.cells #[.int .i64 i, .slice ax xs.length cx] 72)) (.int .i64 j) 3
      rw [World.size_alloc] at hlit
      have HLit := Lib.hid hlit
      have hmblt : w2.heap.size < wr.heap.size := by have := HU.out.size; omega
      have hKm : ∀ k, K k → k ≠ w2.heap.size ∧ k < wr.heap.size := fun k hk => by have := HK.out k hk; have h1 := this.1; have h2 := this.2; exact ⟨by omega, by omega⟩
      have HKm := Lib.hid hKm
      clear hU1 hB1 hlit hKm
      go_wp2_with (first
        | (at_builtin; refine wpList_append_Own rfl (.tmp 32) (.tmp 34) 68 rfl Try.underlying68 hi0.out.1 hi0.out.2.1 hi0.out.2.2.1 hi0.out.2.2.2 rfl (by decide) rfl ((HO.out.keep HUW.out).alloc _) rfl HLit.out (by rfl) (by intro u hu; rcases List.mem_singleton.1 hu with rfl; rfl) (by intro h; cases h) (by simp only [maxLen]; omega) (by omega) ?_
           intro a2 c2 w2' hown2 hup2 hne2
           have hb2 := (HBW.out.alloc (.cells #[.int .i64 j] 3)).upd hup2 (fun f => by have := (HKm.out _ f).2; omega)
           have hx0 : w2'.cell? ⟨wr.heap.size, 0, none⟩ = some (.int .i64 i) := hb2.cell 0
           have hx1 : w2'.cell? ⟨wr.heap.size, 1, none⟩ = some (.slice ax xs.length cx) := hb2.cell 1
           have HO2 := Lib.hid hown2; have HU2' := Lib.hid hup2; clear hown2 hup2 hne2 hb2)
        | (at_mapUpdate; refine wpList_put_raw _ rfl _ _ _ rfl rfl (((HM.out.upd HUW.out (fun f => f)).upd ((Upd.refl Nil _).alloc _) (fun f => f)).upd HU2'.out (fun f => (HKm.out _ f).1 rfl)) (by simp only [maxLen]; omega) hi4 rfl rfl ?_
           intro w3' hm3 hu3
           have HM3 := Lib.hid hm3; have HU3' := Lib.hid hu3; clear hm3 hu3))
      go_roundg (gk - 1)
      case measure => have := HJ.out; omega
      case rel =>
        have z1 := HU2'.out.size
        have z2 := HU3'.out.size
        have z0 := HU.out.size
        simp only [World.size_alloc] at z1
        have uK : Upd K wr w2' := ((((Upd.refl Nil wr).alloc (.cells #[.int .i64 i, .slice ax xs.length cx] 72)).alloc (.cells #[.int .i64 j] 3)).ofNil).trans HU2'.out (fun k hk _ => hk)
        refine ⟨j + 1, by have := HJ.out; omega, by go_num, fun k => Fr w3 w2' k, a2, c2, _, rfl, ?_, fun k hk => ⟨hk.1, by have := hk.2; omega⟩, HM3.out, ?_, ?_⟩
        · rw [ivs_succ]
          refine (HO2.out.mono (F' := fun k => Fr w3 w2' k) ?_).upd HU3'.out (fun k hk e => by have e' : k = w2.heap.size := e; have := hk.1; omega)
          rintro k (h | ⟨h1, h2⟩)
          · have h' := HK.out k h
            exact ⟨h'.1, by have := h'.2; omega⟩
          · simp only [World.size_alloc] at h1
            exact ⟨by omega, h2⟩
        · rw [HTk.out]
          have hnK : ∀ k, E2 k → ¬ K k := fun k he hk => by
            have h1 := (HS3.out k he).2
            have h2 := (HK.out k hk).1
            omega
          refine ((HLa.out.upd uK hnK).upd HU3'.out (fun k he => HNR.out k (.inr he))).put ?_
          exact (HEl.out.upd uK hnK).upd HU3'.out (fun k he => HNR.out k (.inr he))
        · refine (HU.out.trans uK (fun k hk hlt => ?_)).trans HU3'.out (fun k hk _ => hk)
          have := (HK.out k hk).1
          omega
    · obtain rfl : j = P.length := by omega
      obtain ⟨w4, rfl⟩ : ∃ w4, w4 = wr := ⟨_, rfl⟩
      have hr0 := (((HB1.out.inHeap.upd HU2.out (fun _ _ f => f)).upd ((Upd.refl Nil w2).alloc (.map #[] 0)) (fun _ _ f => f)).upd HU3.out (fun _ _ f => f)).upd HU.out (fun k hk e => by have e' : k = w2.heap.size := e; have := HU2.out.size; have := hk.2; omega)
      have HR0 := Lib.hid hr0
      have hla := HLa.out
      rw [List.take_length] at hla
      have HL := Lib.hid hla
      -- the image that was, at w4
      have hu24 : Upd (One w2.heap.size) w2 w4 := ((((Upd.refl Nil w2).alloc (.map #[] 0)).trans HU3.out (fun _ f _ => f)).ofNil).trans HU.out (fun k hk _ => hk)
      have hwas := HI1.out.own.upd hu24 (fun k hk e => by have e' : k = w2.heap.size := e; have := (HI2.out k hk).2; omega)
      have hwasA := HI1.out.all.mono (fun v x h => h.upd hu24 (fun k hk e => by have e' : k = w2.heap.size := e; have := (HI3.out k hk).2; omega))
      have HWas := Lib.hid hwas
      have HWasA := Lib.hid hwasA
      have HU24 := Lib.hid hu24
      clear hr0 hla hu24 hwas hwasA HLa
      go_wp2
      go_loopg [42] 4 (fun k i wr => ∃ j : Nat, j + k = 4 ∧ i = .int .i64 j ∧ Upd Nil w4 wr)
      case atStart => exact ⟨0, by omega, rfl, Upd.refl _ _⟩
      case round =>
        obtain ⟨j, hjk, rfl, hup⟩ := hrel
        have HJ2 := Lib.hid hjk
        have HU4 := Lib.hid hup
        have hj4 : j ≤ 4 := by omega
        clear hjk hup
        by_cases hlt : j < 4
        · have hjf : j < four.length := by rw [H4.out]; exact hlt
          obtain ⟨x4, hx4⟩ : ∃ x4, four[j]'hjf = x4 := ⟨_, rfl⟩
          have hro : readOf four P j hjf = (lastOf P j).getD x4 := by rw [readOf_eq]; exact congrArg _ hx4
          have hls := HL.out.2 j
          obtain ⟨vw, hvw, hew0⟩ := HWasA.out.get hjf
          have hew : Elem E w4 vw x4 := hx4 ▸ hew0
          obtain ⟨bw, ow, hgw, _, hcw0⟩ := rowAt HWas.out.row hvw
          obtain ⟨rfl, rfl⟩ : g = bw ∧ 0 = ow := by simpa using hgw
          rw [Nat.zero_add] at hcw0
          have hcw := HU4.out.cell hcw0 (fun f => f)
          clear hcw0 hgw hvw
          have HJf := Lib.hid hjf
          clear hew0
          obtain ⟨aw, cw', rfl, hrw, _⟩ := hew
          have HRw := Lib.hid (hrw.keep HU4.out)
          clear hrw hx4
          cases hlo : lastOf P j with
          | none =>
            rw [hlo] at hls hro
            have HLs := Lib.hid (show Go.Maps.has D (key j) = false from hls)
            have HRo := Lib.hid (show readOf four P j HJf.out = x4 from hro)
            clear hls hlo hro
            go_wp2_with (first
              | (go_at_call 38; refine (read_is _ (HR0.out.upd HU4.out (fun _ _ f => f)) HFi.out HPl.out HJf.out HRo.out).mono ?_; rintro e wb ⟨ab, cb, rfl, hob, hub⟩; have hcwb := hub.cell hcw (fun f => f); have HOb := Lib.hid hob; have HUb := Lib.hid hub; clear hob hub)
              | (at_lookup; refine wpList_look_raw_no _ rfl _ _ rfl rfl ((HM.out.upd HU4.out (fun f => f)).upd HUb.out (fun f => f)) (by omega) rfl HLs.out ?_)
              | (go_at_call 15; refine (bytesEqual_yes _ cb cw' HOb.out.row (HRw.out.keep HUb.out) rfl).mono ?_; rintro e w' ⟨rfl, rfl⟩))
            go_roundg (gk - 1)
            case measure => have := HJ2.out; omega
            case rel => exact ⟨j + 1, by have := HJ2.out; omega, by go_num, HU4.out.trans HUb.out (fun _ f _ => f)⟩
          | some xs =>
            rw [hlo] at hls hro
            obtain ⟨hh, v, hat, hev⟩ := (show Go.Maps.has D (key j) = true ∧ ∃ v, (∀ z, D.atKey (key j) z = .held v) ∧ Elem E2 w4 v xs from hls)
            obtain ⟨av, cv, rfl, hrv, _⟩ := hev
            have HLs := Lib.hid hh
            have HAt := Lib.hid hat
            have HRv := Lib.hid (hrv.keep HU4.out)
            have HRo := Lib.hid (show readOf four P j HJf.out = xs from hro)
            clear hls hlo hro hh hat hrv
            go_wp2_with (first
              | (go_at_call 38; refine (read_is _ (HR0.out.upd HU4.out (fun _ _ f => f)) HFi.out HPl.out HJf.out HRo.out).mono ?_; rintro e wb ⟨ab, cb, rfl, hob, hub⟩; have HOb := Lib.hid hob; have HUb := Lib.hid hub; clear hob hub)
              | (at_lookup; refine wpList_look_raw_yes _ rfl _ _ rfl rfl ((HM.out.upd HU4.out (fun f => f)).upd HUb.out (fun f => f)) (by omega) rfl HLs.out HAt.out ?_)
              | (go_at_call 15; refine (bytesEqual_yes _ cb cv HOb.out.row (HRv.out.keep HUb.out) rfl).mono ?_; rintro e w' ⟨rfl, rfl⟩))
            go_roundg (gk - 1)
            case measure => have := HJ2.out; omega
            case rel => exact ⟨j + 1, by have := HJ2.out; omega, by go_num, HU4.out.trans HUb.out (fun _ f _ => f)⟩
        · obtain rfl : j = 4 := by omega
          obtain ⟨w5, rfl⟩ : ∃ w5, w5 = wr := ⟨_, rfl⟩
          have HR5 := Lib.hid (HR0.out.upd HU4.out (fun _ _ f => f))
          have HKa := Lib.hid ((HO.out.keep HU4.out).row.inHeap)
          have hsz9 : ∀ b ∈ applyP four P, b.length = 128 := size_applyP HFi.out.size (fun p hp => (HFi.out.sent p hp).2)
          have hl9 : (applyP four P).length = 4 := by rw [length_applyP, length_four]
          have HSz := Lib.hid hsz9
          have HL9 := Lib.hid hl9
          clear hsz9 hl9
          by_cases h40 : (n : Int) ≤ 40
          · have hpe : ((P.length : Int) == (n : Int)) = true := by rw [HPn.out, Nat.min_eq_left (by omega)]; exact beq_self_eq_true _
            have h41 : ¬ (40 < (n : Int)) := by omega
            go_wp2_with (first
              | (go_at_call 42; refine (disk_Copy _ HRb.out HFi.out (by have := HPl.out; omega)).mono ?_; rintro e wc ⟨sc, Fc, rfl, h1, h2, h3⟩; have HCc := Lib.hid h1; have HFc := Lib.hid h2; have HUc := Lib.hid h3; clear h1 h2 h3)
              | (go_at_call 42; refine (disk_Copy _ HRa.out HFi.out (by have := HPl.out; omega)).mono ?_; rintro e wb ⟨sb, Fb, rfl, h1, h2, h3⟩; have HCb := Lib.hid h1; have HFb := Lib.hid h2; have HUb := Lib.hid h3; have HRb := Lib.hid (HRa.out.upd h3 (fun _ _ f => f)); clear h1 h2 h3)
              | (go_at_call 42; refine (disk_Copy _ HR5.out HFi.out (by have := HPl.out; omega)).mono ?_; rintro e wa ⟨sa, Fa, rfl, h1, h2, h3⟩; have HCa := Lib.hid h1; have HFa := Lib.hid h2; have HUa := Lib.hid h3; have HRa := Lib.hid (HR5.out.upd h3 (fun _ _ f => f)); clear h1 h2 h3)
              | (go_at_call 37; refine (crash_none _ ((HCc.out.upd HUd.out (fun k hk f => by have := (HFc.out k hk).1; have := (HFa.out k f).2; have := HUb.out.size; omega)).upd HUe.out (fun k hk f => by have := (HFc.out k hk).1; have := (HFb.out k f).2; omega)) HFi.out HPl.out).mono ?_; rintro e wf ⟨rfl, F6, h1, h2, h3⟩
                 have zb := HUb.out.size
                 have zc := HUc.out.size
                 have zd := HUd.out.size
                 have ze := HUe.out.size
                 have za := HUa.out.size
                 have HC6 := Lib.hid h1
                 have HUf := Lib.hid h2
                 have HA6 := Lib.hid ((HAd.out.upd HUe.out (fun k hk f => by have hb := HFb.out k f; rcases HFd.out k hk with h | h; (have := (HFa.out k h).2; have := hb.1; omega); (have := h.1; have := hb.2; omega))).upd h2 (fun k hk f => by have hb := HFc.out k f; rcases HFd.out k hk with h | h; (have := (HFa.out k h).2; have := hb.1; omega); (have := h.1; have := hb.2; omega)))
                 have HB6 := Lib.hid (HBe.out.upd h2 (fun k hk f => by have hb := HFc.out k f; rcases HFe.out k hk with h | h; (have := (HFb.out k h).2; have := hb.1; omega); (have := h.1; have := hb.2; omega)))
                 have HUall := Lib.hid ((((((HUa.out.trans HUb.out (fun _ f _ => f)).trans HUc.out (fun _ f _ => f)).trans HUd.out (fun k f hk => by have := (HFa.out k f).1; omega)).trans HUe.out (fun k f hk => by have := (HFb.out k f).1; omega))).trans h2 (fun k f hk => by have := (HFc.out k f).1; omega))
                 clear h1 h2 h3 za zb zc zd ze)
              | (go_at_call 37; refine (crash_all _ ((HCa.out.upd HUb.out (fun _ _ f => f)).upd HUc.out (fun _ _ f => f)) HFi.out HPl.out kc (((HKa.out.keep HUa.out).keep HUb.out).keep HUc.out)).mono ?_; rintro e wd ⟨rfl, F4, h1, h2, h3⟩; have HAd := Lib.hid h1; have HUd := Lib.hid h2; have HFd := Lib.hid h3; clear h1 h2 h3)
              | (go_at_call 40; refine (disk_Flush _ ((HCb.out.upd HUc.out (fun _ _ f => f)).upd HUd.out (fun k hk f => by have := (HFb.out k hk).1; have := (HFa.out k f).2; omega)) HFi.out (by have := HPl.out; omega)).mono ?_; rintro e we ⟨rfl, F5, h1, h2, h3⟩; have HBe := Lib.hid h1; have HUe := Lib.hid h2; have HFe := Lib.hid h3; clear h1 h2 h3)
              | (go_at_call 35; refine (disk_Image _ ((HC6.out.upd HUg.out (fun _ _ f => f)).upd HUh.out (fun _ _ f => f)) (by rw [H4.out]; decide) (fun x hx => by rw [HFi.out.size x hx]; decide)).mono ?_; rintro e wi ⟨Ri, Ei, ai, ci, vi, rfl, h1, h2, h3, h4⟩; have HI9 := Lib.hid h1; have HUi := Lib.hid h4; clear h1 h2 h3 h4)
              | (go_at_call 35; refine (disk_Image _ (HB6.out.upd HUg.out (fun _ _ f => f)) (by rw [HL9.out]; decide) (fun x hx => by rw [HSz.out x hx]; decide)).mono ?_; rintro e wh ⟨Rh, Eh, ah, ch, vh, rfl, h1, h2, h3, h4⟩; have HI8 := Lib.hid h1; have HUh := Lib.hid h4; clear h1 h2 h3 h4)
              | (go_at_call 35; refine (disk_Image _ HA6.out (by rw [HL9.out]; decide) (fun x hx => by rw [HSz.out x hx]; decide)).mono ?_; rintro e wg ⟨Rg', Eg, ag, cg, vg, rfl, h1, h2, h3, h4⟩; have HI7 := Lib.hid h1; have HUg := Lib.hid h4; clear h1 h2 h3 h4)
              | (go_at_call 33; refine (sameImage_yes _ ci c0 HI9.out.own.row ((((((HWas.out.keep HU4.out).keep HUall.out).keep HUg.out).keep HUh.out).keep HUi.out).row) HI9.out.all (HWasA.out.mono (fun v x h => ((((h.keep HU4.out).keep HUall.out).keep HUg.out).keep HUh.out).keep HUi.out)) rfl rfl (by rw [H4.out]; decide)).mono ?_; rintro e w' ⟨rfl, rfl⟩)
              | (go_at_call 33; refine (sameImage_yes _ cg ch (HI7.out.own.keep HUh.out).row HI8.out.own.row (HI7.out.all.mono (fun v x h => h.keep HUh.out)) HI8.out.all rfl rfl (by rw [HL9.out]; decide)).mono ?_; rintro e w' ⟨rfl, rfl⟩)
              | (go_at_call 36; refine (pending_none _ ((((HC6.out.upd HUg.out (fun _ _ f => f)).upd HUh.out (fun _ _ f => f)).upd HUi.out (fun _ _ f => f)).upd (HUj.out.trans HUk.out (fun _ f _ => f)) (fun _ _ f => f))).mono ?_; rintro e wl ⟨⟨pl, ql, rfl⟩, hul⟩; have HUl := Lib.hid hul; clear hul)
              | (go_at_call 36; refine (pending_none _ ((((HB6.out.upd HUg.out (fun _ _ f => f)).upd HUh.out (fun _ _ f => f)).upd HUi.out (fun _ _ f => f)).upd HUj.out (fun _ _ f => f))).mono ?_; rintro e wk ⟨⟨pk, qk, rfl⟩, huk⟩; have HUk := Lib.hid huk; clear huk)
              | (go_at_call 36; refine (pending_none _ (((HA6.out.upd HUg.out (fun _ _ f => f)).upd HUh.out (fun _ _ f => f)).upd HUi.out (fun _ _ f => f))).mono ?_; rintro e wj ⟨⟨pj, qj, rfl⟩, huj⟩; have HUj := Lib.hid huj; clear huj))
            go_ret
            refine ⟨rfl, ?_⟩
            have old := ((HU1.out.trans HU2.out (fun _ f _ => f)).trans HU24.out (fun k hk hlt => by have e' : k = w2.heap.size := hk; have := HU1.out.size; have := HU2.out.size; omega)).trans HU4.out (fun _ f _ => f)
            exact ((((((old.trans HUall.out (fun _ f _ => f)).trans HUg.out (fun _ f _ => f)).trans HUh.out (fun _ f _ => f)).trans HUi.out (fun _ f _ => f)).trans HUj.out (fun _ f _ => f)).trans HUk.out (fun _ f _ => f)).trans HUl.out (fun _ f _ => f)
          · have hpe : ((P.length : Int) == 40) = true := by rw [HPn.out, Nat.min_eq_right (by omega)]; rfl
            have h41 : 40 < (n : Int) := by omega
            go_wp2_with (first
              | (go_at_call 42; refine (disk_Copy _ HRb.out HFi.out (by have := HPl.out; omega)).mono ?_; rintro e wc ⟨sc, Fc, rfl, h1, h2, h3⟩; have HCc := Lib.hid h1; have HFc := Lib.hid h2; have HUc := Lib.hid h3; clear h1 h2 h3)
              | (go_at_call 42; refine (disk_Copy _ HRa.out HFi.out (by have := HPl.out; omega)).mono ?_; rintro e wb ⟨sb, Fb, rfl, h1, h2, h3⟩; have HCb := Lib.hid h1; have HFb := Lib.hid h2; have HUb := Lib.hid h3; have HRb := Lib.hid (HRa.out.upd h3 (fun _ _ f => f)); clear h1 h2 h3)
              | (go_at_call 42; refine (disk_Copy _ HR5.out HFi.out (by have := HPl.out; omega)).mono ?_; rintro e wa ⟨sa, Fa, rfl, h1, h2, h3⟩; have HCa := Lib.hid h1; have HFa := Lib.hid h2; have HUa := Lib.hid h3; have HRa := Lib.hid (HR5.out.upd h3 (fun _ _ f => f)); clear h1 h2 h3)
              | (go_at_call 37; refine (crash_none _ ((HCc.out.upd HUd.out (fun k hk f => by have := (HFc.out k hk).1; have := (HFa.out k f).2; have := HUb.out.size; omega)).upd HUe.out (fun k hk f => by have := (HFc.out k hk).1; have := (HFb.out k f).2; omega)) HFi.out HPl.out).mono ?_; rintro e wf ⟨rfl, F6, h1, h2, h3⟩
                 have zb := HUb.out.size
                 have zc := HUc.out.size
                 have zd := HUd.out.size
                 have ze := HUe.out.size
                 have za := HUa.out.size
                 have HC6 := Lib.hid h1
                 have HUf := Lib.hid h2
                 have HA6 := Lib.hid ((HAd.out.upd HUe.out (fun k hk f => by have hb := HFb.out k f; rcases HFd.out k hk with h | h; (have := (HFa.out k h).2; have := hb.1; omega); (have := h.1; have := hb.2; omega))).upd h2 (fun k hk f => by have hb := HFc.out k f; rcases HFd.out k hk with h | h; (have := (HFa.out k h).2; have := hb.1; omega); (have := h.1; have := hb.2; omega)))
                 have HB6 := Lib.hid (HBe.out.upd h2 (fun k hk f => by have hb := HFc.out k f; rcases HFe.out k hk with h | h; (have := (HFb.out k h).2; have := hb.1; omega); (have := h.1; have := hb.2; omega)))
                 have HUall := Lib.hid ((((((HUa.out.trans HUb.out (fun _ f _ => f)).trans HUc.out (fun _ f _ => f)).trans HUd.out (fun k f hk => by have := (HFa.out k f).1; omega)).trans HUe.out (fun k f hk => by have := (HFb.out k f).1; omega))).trans h2 (fun k f hk => by have := (HFc.out k f).1; omega))
                 clear h1 h2 h3 za zb zc zd ze)
              | (go_at_call 37; refine (crash_all _ ((HCa.out.upd HUb.out (fun _ _ f => f)).upd HUc.out (fun _ _ f => f)) HFi.out HPl.out kc (((HKa.out.keep HUa.out).keep HUb.out).keep HUc.out)).mono ?_; rintro e wd ⟨rfl, F4, h1, h2, h3⟩; have HAd := Lib.hid h1; have HUd := Lib.hid h2; have HFd := Lib.hid h3; clear h1 h2 h3)
              | (go_at_call 40; refine (disk_Flush _ ((HCb.out.upd HUc.out (fun _ _ f => f)).upd HUd.out (fun k hk f => by have := (HFb.out k hk).1; have := (HFa.out k f).2; omega)) HFi.out (by have := HPl.out; omega)).mono ?_; rintro e we ⟨rfl, F5, h1, h2, h3⟩; have HBe := Lib.hid h1; have HUe := Lib.hid h2; have HFe := Lib.hid h3; clear h1 h2 h3)
              | (go_at_call 35; refine (disk_Image _ ((HC6.out.upd HUg.out (fun _ _ f => f)).upd HUh.out (fun _ _ f => f)) (by rw [H4.out]; decide) (fun x hx => by rw [HFi.out.size x hx]; decide)).mono ?_; rintro e wi ⟨Ri, Ei, ai, ci, vi, rfl, h1, h2, h3, h4⟩; have HI9 := Lib.hid h1; have HUi := Lib.hid h4; clear h1 h2 h3 h4)
              | (go_at_call 35; refine (disk_Image _ (HB6.out.upd HUg.out (fun _ _ f => f)) (by rw [HL9.out]; decide) (fun x hx => by rw [HSz.out x hx]; decide)).mono ?_; rintro e wh ⟨Rh, Eh, ah, ch, vh, rfl, h1, h2, h3, h4⟩; have HI8 := Lib.hid h1; have HUh := Lib.hid h4; clear h1 h2 h3 h4)
              | (go_at_call 35; refine (disk_Image _ HA6.out (by rw [HL9.out]; decide) (fun x hx => by rw [HSz.out x hx]; decide)).mono ?_; rintro e wg ⟨Rg', Eg, ag, cg, vg, rfl, h1, h2, h3, h4⟩; have HI7 := Lib.hid h1; have HUg := Lib.hid h4; clear h1 h2 h3 h4)
              | (go_at_call 33; refine (sameImage_yes _ ci c0 HI9.out.own.row ((((((HWas.out.keep HU4.out).keep HUall.out).keep HUg.out).keep HUh.out).keep HUi.out).row) HI9.out.all (HWasA.out.mono (fun v x h => ((((h.keep HU4.out).keep HUall.out).keep HUg.out).keep HUh.out).keep HUi.out)) rfl rfl (by rw [H4.out]; decide)).mono ?_; rintro e w' ⟨rfl, rfl⟩)
              | (go_at_call 33; refine (sameImage_yes _ cg ch (HI7.out.own.keep HUh.out).row HI8.out.own.row (HI7.out.all.mono (fun v x h => h.keep HUh.out)) HI8.out.all rfl rfl (by rw [HL9.out]; decide)).mono ?_; rintro e w' ⟨rfl, rfl⟩)
              | (go_at_call 36; refine (pending_none _ ((((HC6.out.upd HUg.out (fun _ _ f => f)).upd HUh.out (fun _ _ f => f)).upd HUi.out (fun _ _ f => f)).upd (HUj.out.trans HUk.out (fun _ f _ => f)) (fun _ _ f => f))).mono ?_; rintro e wl ⟨⟨pl, ql, rfl⟩, hul⟩; have HUl := Lib.hid hul; clear hul)
              | (go_at_call 36; refine (pending_none _ ((((HB6.out.upd HUg.out (fun _ _ f => f)).upd HUh.out (fun _ _ f => f)).upd HUi.out (fun _ _ f => f)).upd HUj.out (fun _ _ f => f))).mono ?_; rintro e wk ⟨⟨pk, qk, rfl⟩, huk⟩; have HUk := Lib.hid huk; clear huk)
              | (go_at_call 36; refine (pending_none _ (((HA6.out.upd HUg.out (fun _ _ f => f)).upd HUh.out (fun _ _ f => f)).upd HUi.out (fun _ _ f => f))).mono ?_; rintro e wj ⟨⟨pj, qj, rfl⟩, huj⟩; have HUj := Lib.hid huj; clear huj))
            go_ret
            refine ⟨rfl, ?_⟩
            have old := ((HU1.out.trans HU2.out (fun _ f _ => f)).trans HU24.out (fun k hk hlt => by have e' : k = w2.heap.size := hk; have := HU1.out.size; have := HU2.out.size; omega)).trans HU4.out (fun _ f _ => f)
            exact ((((((old.trans HUall.out (fun _ f _ => f)).trans HUg.out (fun _ f _ => f)).trans HUh.out (fun _ f _ => f)).trans HUi.out (fun _ f _ => f)).trans HUj.out (fun _ f _ => f)).trans HUk.out (fun _ f _ => f)).trans HUl.out (fun _ f _ => f)
end Go.Proofs.Ytbaombnnagidcaa.diskCrashes
