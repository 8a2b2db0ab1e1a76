/- NetLives: whatever is done to a net, it answers and has what the reference's net has; for every list of calls. -/
import Derived.Test.YtbaombnnagidcaaNetAny
import Derived.Test.YtbaombnnagidcaaOpen
import Derived.Deep.RegionHeld3
namespace Go.Proofs.Ytbaombnnagidcaa.netLives
open Go.RowKit Go.Deep Go.WideShapes Go.ChangeShapes Go.ChangeAt

/-- Both nets in one world, apart, all of both new since W. -/
structure Two (W w : World) (s1 s2 : Nat) (F1 F2 : Nat → Prop) (l1 l2 : List (List UInt8)) : Prop where
  net : NetRep F1 w s1 l1
  ref : RefRep F2 w s2 l2
  in1 : ∀ k, F1 k → Fr W w k
  in2 : ∀ k, F2 k → Fr W w k
  apart : ∀ k, F1 k → ¬ F2 k
  upd : Upd Nil W w
namespace Two
variable {W w w' : World} {s1 s2 : Nat} {F1 F2 : Nat → Prop} {l1 l2 : List (List UInt8)}
theorem far {G : Nat → Prop} (h : Two W w s1 s2 F1 F2 l1 l2) (u : Upd G w w') (h1 : ∀ k, F1 k → ¬ G k) (h2 : ∀ k, F2 k → ¬ G k) (h3 : ∀ k, G k → W.heap.size ≤ k) : Two W w' s1 s2 F1 F2 l1 l2 :=
  ⟨h.net.upd u h1, h.ref.upd u h2, fun k hk => ⟨(h.in1 k hk).1, Nat.lt_of_lt_of_le (h.in1 k hk).2 u.size⟩, fun k hk => ⟨(h.in2 k hk).1, Nat.lt_of_lt_of_le (h.in2 k hk).2 u.size⟩, h.apart,
    h.upd.trans u (fun k g hk => by have := h3 k g; omega)⟩
theorem keep (h : Two W w s1 s2 F1 F2 l1 l2) (u : Upd Nil w w') : Two W w' s1 s2 F1 F2 l1 l2 := h.far u (fun _ _ f => f) (fun _ _ f => f) (fun _ f => f.elim)
theorem drew (h : Two W w s1 s2 F1 F2 l1 l2) : Two W w.drew s1 s2 F1 F2 l1 l2 := h.keep (Upd.refl Nil w).drew
theorem alloc (h : Two W w s1 s2 F1 F2 l1 l2) (o : Obj) : Two W (w.alloc o) s1 s2 F1 F2 l1 l2 := h.keep ((Upd.refl Nil w).alloc o)
theorem stepNet {F1' : Nat → Prop} {l1' : List (List UInt8)} (h : Two W w s1 s2 F1 F2 l1 l2) (hb : NetRep F1' w' s1 l1') (u : Upd F1 w w') (hF : ∀ k, F1' k → F1 k ∨ Fr w w' k) : Two W w' s1 s2 F1' F2 l1' l2 := by
  have hz := u.size
  have hz0 := h.upd.size
  refine ⟨hb, h.ref.upd u (fun k h2 h1 => h.apart k h1 h2), fun k hk => ?_, fun k hk => ⟨(h.in2 k hk).1, Nat.lt_of_lt_of_le (h.in2 k hk).2 hz⟩, fun k hk h2 => ?_, h.upd.trans u (fun k g hk => by have := (h.in1 k g).1; omega)⟩
  · rcases hF k hk with h1 | h1
    · exact ⟨(h.in1 k h1).1, Nat.lt_of_lt_of_le (h.in1 k h1).2 hz⟩
    · exact ⟨Nat.le_trans hz0 h1.1, h1.2⟩
  · rcases hF k hk with h1 | h1
    · exact h.apart k h1 h2
    · have := (h.in2 k h2).2
      have := h1.1
      omega
theorem stepRef {F2' : Nat → Prop} {l2' : List (List UInt8)} (h : Two W w s1 s2 F1 F2 l1 l2) (hb : RefRep F2' w' s2 l2') (u : Upd F2 w w') (hF : ∀ k, F2' k → F2 k ∨ Fr w w' k) : Two W w' s1 s2 F1 F2' l1 l2' := by
  have hz := u.size
  have hz0 := h.upd.size
  refine ⟨h.net.upd u h.apart, hb, fun k hk => ⟨(h.in1 k hk).1, Nat.lt_of_lt_of_le (h.in1 k hk).2 hz⟩, fun k hk => ?_, fun k h1 hk => ?_, h.upd.trans u (fun k g hk => by have := (h.in2 k g).1; omega)⟩
  · rcases hF k hk with h1 | h1
    · exact ⟨(h.in2 k h1).1, Nat.lt_of_lt_of_le (h.in2 k h1).2 hz⟩
    · exact ⟨Nat.le_trans hz0 h1.1, h1.2⟩
  · rcases hF k hk with h2 | h2
    · exact h.apart k h1 h2
    · have := (h.in1 k h1).2
      have := h2.1
      omega
end Two

theorem sameImage_yes {F G E E' : Nat → Prop} (w : World) {A B : Option Addr} (c d : Nat) {vs us : List Value} {xss : List (List UInt8)} (hA : Row F w A vs) (hB : Row G w B us)
    (h1 : All2 (Elem E w) vs xss) (h2 : All2 (Elem E' w) us xss) (hn : xss.length ≤ 9223372036854775807) :
    Calls Try.prog 33 #[.slice A xss.length c, .slice B xss.length d] w fun e w' => e = .returned (.bool true) ∧ w = w' :=
  (sameImage w c d hA hB h1 h2 hn hn).mono fun _ _ ⟨he, hw⟩ => ⟨by rw [he, decide_eq_true rfl], hw⟩

/-- The calls as they lie in memory. -/
def Calls19 (w : World) (a : Option Addr) (n : Nat) (d : Nat → Int × Int × List UInt8) : Prop :=
  ∀ j, j < n → ∃ b o ab cb, a = some ⟨b, o, none⟩ ∧ w.cell? ⟨b, o + j * 3, none⟩ = some (.int .i64 (d j).1) ∧ w.cell? ⟨b, o + j * 3 + 1, none⟩ = some (.int .i64 (d j).2.1) ∧
    w.cell? ⟨b, o + j * 3 + 2, none⟩ = some (.slice ab (d j).2.2.length cb) ∧ Row (Old w) w ab (bvs (d j).2.2) ∧ (ab = none → cb = 0) ∧ (d j).2.2.length ≤ 140737488355328

def Inv (W : World) (wr : World) (s1 s2 : Nat) : Prop := ∃ F1 F2 l, Two W wr s1 s2 F1 F2 l l ∧ Fits l

set_option maxRecDepth 100000 in
set_option maxHeartbeats 4000000 in
theorem walk (w : World) (a : Option Addr) (n c : Nat) (d : Nat → Int × Int × List UInt8) (hd : Calls19 w a n d) :
    Calls Try.prog 6 #[.slice a n c] w fun e w' => e = .returned (.bool true) ∧ Upd Nil w w' := by
  have HD := Lib.hid hd
  clear hd
  go_enter Try.func6, Try.ntmps6
  go_wp2_with (go_at_call 12; refine (net_New _).mono ?_; rintro e w1 ⟨rfl, rfl⟩)
  go_loopg [22] n (fun k i wr => ∃ j : Nat, j + k = n ∧ i = .int .i64 j ∧ Inv w wr w.heap.size (w.heap.size + 1))
  case atStart =>
    refine ⟨0, by omega, rfl, One w.heap.size, One (w.heap.size + 1), [], ⟨?_, ?_, ?_, ?_, ?_, ((Upd.refl Nil w).alloc _).alloc _⟩, Fits.nil⟩
    · exact (Bag.new _ _ w).upd ((Upd.refl Nil _).alloc _) (fun _ _ f => f)
    · have := Bag.new 56 [] (w.alloc (.cells #[.slice none 0 0, .bool true] 33))
      simpa using this
    · rintro k rfl
      exact ⟨Nat.le_refl _, by simp; omega⟩
    · rintro k rfl
      exact ⟨by omega, by simp⟩
    · rintro k rfl h2
      have h3 : w.heap.size = w.heap.size + 1 := h2
      omega
  case round =>
    obtain ⟨j, hjk, rfl, hinv⟩ := hrel
    obtain ⟨F1, F2, l, hT, hfit⟩ := hinv
    have hjn : j ≤ n := by omega
    have HJ := Lib.hid hjk
    have HT := Lib.hid hT
    have HF := Lib.hid hfit
    clear hjk hT hfit
    by_cases hlt : j < n
    · obtain ⟨b, o, ab, cb, rfl, h1', h2', h3', hr', hab, hx⟩ := HD.out j hlt
      rcases hdj : d j with ⟨op, i, xs⟩
      rw [hdj] at h1' h2' h3' hr' hx
      have h1 := HT.out.upd.cell h1' (fun f => f)
      have h2 := HT.out.upd.cell h2' (fun f => f)
      have h3 := HT.out.upd.cell h3' (fun f => f)
      have HR := Lib.hid (hr'.keep HT.out.upd)
      have HAB := Lib.hid hab
      clear h1' h2' h3' hr' hab hdj
      have hnk1 : ¬ F1 wr.heap.size := fun f => by have := (HT.out.in1 _ f).2; omega
      have HD1 := Lib.hid (show ∀ k, Old w k → ¬ F1 k from fun k hk f => by have h1 := (HT.out.in1 _ f).1; have h2 : k < w.heap.size := hk; omega)
      have HD2 := Lib.hid (show ∀ k, Old w k → ¬ F2 k from fun k hk f => by have h1 := (HT.out.in2 _ f).1; have h2 : k < w.heap.size := hk; omega)
      have HG1 := Lib.hid (show ∀ k, wr.heap.size < k → ¬ F1 k from fun k hk f => by have h1 := (HT.out.in1 _ f).2; omega)
      have HG2 := Lib.hid (show ∀ k, wr.heap.size < k → ¬ F2 k from fun k hk f => by have h1 := (HT.out.in2 _ f).2; omega)
      have hnk2 : ¬ F2 wr.heap.size := fun f => by have := (HT.out.in2 _ f).2; omega
      by_cases h100 : j ≤ 100
      · go_wp2_with (go_at_call 26; refine (bytesClone _ cb (HR.out.alloc _) hx).mono ?_; rintro e w1 ⟨a1, c1, rfl, hown1, hup1⟩
                     have hk := (Blk.new wr 58 #[.int .i64 op, .int .i64 i, .slice ab xs.length cb]).upd hup1 (fun f => f); have hk0 := hk.cell 0; have hk1 := hk.cell 1; have hk2 := hk.cell 2; have HK := Lib.hid hk
                     have hlt1 : wr.heap.size < w1.heap.size := hk.lt
                     have HO1 := Lib.hid hown1; have HU1 := Lib.hid hup1; have HT1 := Lib.hid ((HT.out.alloc (.cells #[.int .i64 op, .int .i64 i, .slice ab xs.length cb] 58)).keep hup1); clear hk hown1 hup1)
        · go_region_held3 (fun W => W.cell? ⟨wr.heap.size, 2, none⟩ = some (.slice ab xs.length cb)) (first | exact hk3' | exact hk2' | exact hk2)
            (first
            | (go_at_call 13; refine (net_Send_any _ HT1.out.drew.net c1 HO1.out.row).mono ?_; rintro e w2 ⟨rfl, F1', hb, hu, hF⟩
               have HT2 := Lib.hid (HT1.out.drew.stepNet hb hu hF); have hk2' := hu.cell hk2 hnk1; have HU2 := Lib.hid hu
               have HX1 := Lib.hid (show ∀ k, F1' k → ¬ Fr (wr.alloc (.cells #[.int .i64 op, .int .i64 i, .slice ab xs.length cb] 58)) w1 k from fun k hk f => by
                 have f1 := f.1; have f2 := f.2; simp at f1
                 rcases hF k hk with h | h
                 · exact HG1.out k (by omega) h
                 · have := h.1; simp at this; omega)
               clear hb hu hF)
            | (go_at_call 27; refine (ref_Send_any _ HT2.out.ref cb (((HR.out.alloc _).keep HU1.out).drew.upd HU2.out HD1.out) HAB.out).mono ?_; rintro e w3 ⟨rfl, F2', hb, hu, hF⟩
               have HT3 := Lib.hid (HT2.out.stepRef hb hu hF); have hk3' := hu.cell hk2' hnk2; have HU3 := Lib.hid hu
               have HX2 := Lib.hid (show ∀ k, F2' k → ¬ Fr (wr.alloc (.cells #[.int .i64 op, .int .i64 i, .slice ab xs.length cb] 58)) w1 k from fun k hk f => by
                 have f1 := f.1; have f2 := f.2; simp at f1
                 rcases hF k hk with h | h
                 · exact HG2.out k (by omega) h
                 · have := h.1; have h2 := HU2.out.size; simp at h2; omega)
               have HG3 := Lib.hid ((HO1.out.drew.upd HU2.out (fun k hk => HG1.out k (by have := hk.1; simp at this; omega))).upd hu (fun k hk => HG2.out k (by have := hk.1; simp at this; omega)))
               clear hb hu hF)
            | (go_at_call 15; refine (bytesEqual_yes _ _ _ HG3.out.row ((((HR.out.alloc _).keep HU1.out).drew.upd HU2.out HD1.out).upd HU3.out HD2.out) rfl).mono ?_; rintro e w' ⟨rfl, rfl⟩))
          go_wp2_with (go_at_call 28; refine (spoil _ HG3.out).mono ?_; rintro e wz ⟨rfl, hu⟩
                       have HTZ := Lib.hid (HT3.out.far hu HX1.out HX2.out (fun k hk => by have h1 := hk.1; have h2 := HT.out.upd.size; simp at h1; omega)); have HFZ := Lib.hid (HF.out.send xs); clear hu)
          obtain ⟨R2, E2, al2, cl2, vs2, hF2s, hs2, hR2, hE2, hb2, hown2, hall2⟩ := HTZ.out.ref
          have hx0 := hb2.cell 0
          have HB2 := Lib.hid hb2; have HW2 := Lib.hid hown2; have HA2 := Lib.hid hall2
          clear hR2 hE2 hb2 hown2 hall2
          go_wp2_with fail
          go_region_held3 (fun W => W.cell? ⟨w.heap.size + 1, 0, none⟩ = some (.slice al2 (sendL l xs).length cl2)) (first | exact hxl | exact hx0)
            (first
            | (go_at_call 19; refine (net_List _ HTZ.out.drew.net (by have := HFZ.out.1; omega) (fun x hx => by have := HFZ.out.2 x hx; omega)).mono ?_; rintro e wl ⟨R3, E3, a3, c3, vs3, rfl, hrows, _, _, hul⟩
               have hxl := hul.cell hx0 (fun f => f); have HRW := Lib.hid hrows; have HUL := Lib.hid hul; clear hrows hul)
            | (go_at_call 33; refine (sameImage_yes _ _ _ HRW.out.own.row (HW2.out.drew.keep HUL.out).row HRW.out.all (HA2.out.mono (fun v x h => (h.keep (Upd.refl Nil _).drew).keep HUL.out)) (by have := HFZ.out.1; omega)).mono ?_; rintro e w' ⟨rfl, rfl⟩))
          go_wp2
          go_roundg (gk - 1)
          case measure => have := HJ.out; omega
          case rel => exact ⟨j + 1, by have := HJ.out; omega, by go_num, _, _, _, HTZ.out.drew.keep HUL.out, HFZ.out⟩
        · go_region_held3 (fun W => W.cell? ⟨wr.heap.size, 2, none⟩ = some (.slice ab xs.length cb)) (first | exact hk3' | exact hk2' | exact hk2)
            (first
            | (go_at_call 13; refine (net_Send_any _ HT1.out.drew.net c1 HO1.out.row).mono ?_; rintro e w2 ⟨rfl, F1', hb, hu, hF⟩
               have HT2 := Lib.hid (HT1.out.drew.stepNet hb hu hF); have hk2' := hu.cell hk2 hnk1; have HU2 := Lib.hid hu
               have HX1 := Lib.hid (show ∀ k, F1' k → ¬ Fr (wr.alloc (.cells #[.int .i64 op, .int .i64 i, .slice ab xs.length cb] 58)) w1 k from fun k hk f => by
                 have f1 := f.1; have f2 := f.2; simp at f1
                 rcases hF k hk with h | h
                 · exact HG1.out k (by omega) h
                 · have := h.1; simp at this; omega)
               clear hb hu hF)
            | (go_at_call 27; refine (ref_Send_any _ HT2.out.ref cb (((HR.out.alloc _).keep HU1.out).drew.upd HU2.out HD1.out) HAB.out).mono ?_; rintro e w3 ⟨rfl, F2', hb, hu, hF⟩
               have HT3 := Lib.hid (HT2.out.stepRef hb hu hF); have hk3' := hu.cell hk2' hnk2; have HU3 := Lib.hid hu
               have HX2 := Lib.hid (show ∀ k, F2' k → ¬ Fr (wr.alloc (.cells #[.int .i64 op, .int .i64 i, .slice ab xs.length cb] 58)) w1 k from fun k hk f => by
                 have f1 := f.1; have f2 := f.2; simp at f1
                 rcases hF k hk with h | h
                 · exact HG2.out k (by omega) h
                 · have := h.1; have h2 := HU2.out.size; simp at h2; omega)
               have HG3 := Lib.hid ((HO1.out.drew.upd HU2.out (fun k hk => HG1.out k (by have := hk.1; simp at this; omega))).upd hu (fun k hk => HG2.out k (by have := hk.1; simp at this; omega)))
               clear hb hu hF)
            | (go_at_call 15; refine (bytesEqual_yes _ _ _ HG3.out.row ((((HR.out.alloc _).keep HU1.out).drew.upd HU2.out HD1.out).upd HU3.out HD2.out) rfl).mono ?_; rintro e w' ⟨rfl, rfl⟩))
          go_wp2_with (go_at_call 28; refine (spoil _ HG3.out).mono ?_; rintro e wz ⟨rfl, hu⟩
                       have HTZ := Lib.hid (HT3.out.far hu HX1.out HX2.out (fun k hk => by have h1 := hk.1; have h2 := HT.out.upd.size; simp at h1; omega)); have HFZ := Lib.hid (HF.out.send xs); clear hu)
          obtain ⟨R2, E2, al2, cl2, vs2, hF2s, hs2, hR2, hE2, hb2, hown2, hall2⟩ := HTZ.out.ref
          have hx0 := hb2.cell 0
          have HB2 := Lib.hid hb2; have HW2 := Lib.hid hown2; have HA2 := Lib.hid hall2
          clear hR2 hE2 hb2 hown2 hall2
          go_wp2_with fail
          go_region_held3 (fun W => W.cell? ⟨w.heap.size + 1, 0, none⟩ = some (.slice al2 (sendL l xs).length cl2)) (first | exact hxl | exact hx0)
            (first
            | (go_at_call 19; refine (net_List _ HTZ.out.drew.net (by have := HFZ.out.1; omega) (fun x hx => by have := HFZ.out.2 x hx; omega)).mono ?_; rintro e wl ⟨R3, E3, a3, c3, vs3, rfl, hrows, _, _, hul⟩
               have hxl := hul.cell hx0 (fun f => f); have HRW := Lib.hid hrows; have HUL := Lib.hid hul; clear hrows hul)
            | (go_at_call 33; refine (sameImage_yes _ _ _ HRW.out.own.row (HW2.out.drew.keep HUL.out).row HRW.out.all (HA2.out.mono (fun v x h => (h.keep (Upd.refl Nil _).drew).keep HUL.out)) (by have := HFZ.out.1; omega)).mono ?_; rintro e w' ⟨rfl, rfl⟩))
          go_wp2
          go_roundg (gk - 1)
          case measure => have := HJ.out; omega
          case rel => exact ⟨j + 1, by have := HJ.out; omega, by go_num, _, _, _, HTZ.out.drew.keep HUL.out, HFZ.out⟩
        · go_region_held3 (fun W => W.cell? ⟨wr.heap.size, 1, none⟩ = some (.int .i64 i)) (first | exact hk3' | exact hk1' | exact hk1)
            (first
            | (go_at_call 17; refine (net_Drop_any _ HT1.out.drew.net HF.out i).mono ?_; rintro e w2 ⟨rfl, F1', hb, hu, hF⟩
               have HT2 := Lib.hid (HT1.out.drew.stepNet hb hu hF); have hk1' := hu.cell hk1 hnk1; clear hb hu hF)
            | (go_at_call 29; refine (ref_Drop_any _ HT2.out.ref HF.out i).mono ?_; rintro e wz ⟨rfl, F2', hb, hu, hF⟩
               have HTZ := Lib.hid (HT2.out.stepRef hb hu hF); have hk3' := hu.cell hk1' hnk2; have HFZ := Lib.hid (HF.out.drop i); clear hb hu hF))
          obtain ⟨R2, E2, al2, cl2, vs2, hF2s, hs2, hR2, hE2, hb2, hown2, hall2⟩ := HTZ.out.ref
          have hx0 := hb2.cell 0
          have HB2 := Lib.hid hb2; have HW2 := Lib.hid hown2; have HA2 := Lib.hid hall2
          clear hR2 hE2 hb2 hown2 hall2
          go_wp2_with fail
          go_region_held3 (fun W => W.cell? ⟨w.heap.size + 1, 0, none⟩ = some (.slice al2 (dropL l i).length cl2)) (first | exact hxl | exact hx0)
            (first
            | (go_at_call 19; refine (net_List _ HTZ.out.drew.net (by have := HFZ.out.1; omega) (fun x hx => by have := HFZ.out.2 x hx; omega)).mono ?_; rintro e wl ⟨R3, E3, a3, c3, vs3, rfl, hrows, _, _, hul⟩
               have hxl := hul.cell hx0 (fun f => f); have HRW := Lib.hid hrows; have HUL := Lib.hid hul; clear hrows hul)
            | (go_at_call 33; refine (sameImage_yes _ _ _ HRW.out.own.row (HW2.out.drew.keep HUL.out).row HRW.out.all (HA2.out.mono (fun v x h => (h.keep (Upd.refl Nil _).drew).keep HUL.out)) (by have := HFZ.out.1; omega)).mono ?_; rintro e w' ⟨rfl, rfl⟩))
          go_wp2
          go_roundg (gk - 1)
          case measure => have := HJ.out; omega
          case rel => exact ⟨j + 1, by have := HJ.out; omega, by go_num, _, _, _, HTZ.out.drew.keep HUL.out, HFZ.out⟩
        · go_region_held3 (fun W => W.cell? ⟨wr.heap.size, 1, none⟩ = some (.int .i64 i)) (first | exact hk3' | exact hk1' | exact hk1)
            (first
            | (go_at_call 18; refine (net_Twice_any _ HT1.out.drew.net HF.out i).mono ?_; rintro e w2 ⟨rfl, F1', hb, hu, hF⟩
               have HT2 := Lib.hid (HT1.out.drew.stepNet hb hu hF); have hk1' := hu.cell hk1 hnk1; clear hb hu hF)
            | (go_at_call 30; refine (ref_Twice_any _ HT2.out.ref HF.out i).mono ?_; rintro e wz ⟨rfl, F2', hb, hu, hF⟩
               have HTZ := Lib.hid (HT2.out.stepRef hb hu hF); have hk3' := hu.cell hk1' hnk2; have HFZ := Lib.hid (HF.out.twice i); clear hb hu hF))
          obtain ⟨R2, E2, al2, cl2, vs2, hF2s, hs2, hR2, hE2, hb2, hown2, hall2⟩ := HTZ.out.ref
          have hx0 := hb2.cell 0
          have HB2 := Lib.hid hb2; have HW2 := Lib.hid hown2; have HA2 := Lib.hid hall2
          clear hR2 hE2 hb2 hown2 hall2
          go_wp2_with fail
          go_region_held3 (fun W => W.cell? ⟨w.heap.size + 1, 0, none⟩ = some (.slice al2 (twiceL l i).length cl2)) (first | exact hxl | exact hx0)
            (first
            | (go_at_call 19; refine (net_List _ HTZ.out.drew.net (by have := HFZ.out.1; omega) (fun x hx => by have := HFZ.out.2 x hx; omega)).mono ?_; rintro e wl ⟨R3, E3, a3, c3, vs3, rfl, hrows, _, _, hul⟩
               have hxl := hul.cell hx0 (fun f => f); have HRW := Lib.hid hrows; have HUL := Lib.hid hul; clear hrows hul)
            | (go_at_call 33; refine (sameImage_yes _ _ _ HRW.out.own.row (HW2.out.drew.keep HUL.out).row HRW.out.all (HA2.out.mono (fun v x h => (h.keep (Upd.refl Nil _).drew).keep HUL.out)) (by have := HFZ.out.1; omega)).mono ?_; rintro e w' ⟨rfl, rfl⟩))
          go_wp2
          go_roundg (gk - 1)
          case measure => have := HJ.out; omega
          case rel => exact ⟨j + 1, by have := HJ.out; omega, by go_num, _, _, _, HTZ.out.drew.keep HUL.out, HFZ.out⟩
        · go_wp2_with (first
            | (go_at_call 14; refine (net_Take_any _ HT1.out.net HF.out i).mono ?_; rintro e w2 ⟨a2, c2, rfl, hown2, F1', hb, hu, hF⟩
               have HT2 := Lib.hid (HT1.out.stepNet hb hu hF); have hk1' := hu.cell hk1 hnk1; have HO2 := Lib.hid hown2; have HG2' := Lib.hid (fun k (hk : Fr w1 w2 k) => HG2.out k (by have := hk.1; omega)); clear hb hu hF hown2)
            | (go_at_call 31; refine (ref_Take_any _ HT2.out.ref HF.out i).mono ?_; rintro e wz ⟨a3, c3, rfl, hown3, F2', hb, hu, hF⟩
               have HTZ := Lib.hid (HT2.out.stepRef hb hu hF); have HFZ := Lib.hid (HF.out.drop i); have HO3 := Lib.hid hown3; have HO2z := Lib.hid (HO2.out.upd hu HG2'.out); clear hb hu hF hown3)
            | (go_at_call 15; refine (bytesEqual_yes _ _ _ HO2z.out.row HO3.out.row rfl).mono ?_; rintro e w' ⟨rfl, rfl⟩))
          obtain ⟨R2, E2, al2, cl2, vs2, hF2s, hs2, hR2, hE2, hb2, hown2, hall2⟩ := HTZ.out.ref
          have hx0 := hb2.cell 0
          have HB2 := Lib.hid hb2; have HW2 := Lib.hid hown2; have HA2 := Lib.hid hall2
          clear hR2 hE2 hb2 hown2 hall2
          go_wp2_with fail
          go_region_held3 (fun W => W.cell? ⟨w.heap.size + 1, 0, none⟩ = some (.slice al2 (dropL l i).length cl2)) (first | exact hxl | exact hx0)
            (first
            | (go_at_call 19; refine (net_List _ HTZ.out.drew.net (by have := HFZ.out.1; omega) (fun x hx => by have := HFZ.out.2 x hx; omega)).mono ?_; rintro e wl ⟨R3, E3, a3, c3, vs3, rfl, hrows, _, _, hul⟩
               have hxl := hul.cell hx0 (fun f => f); have HRW := Lib.hid hrows; have HUL := Lib.hid hul; clear hrows hul)
            | (go_at_call 33; refine (sameImage_yes _ _ _ HRW.out.own.row (HW2.out.drew.keep HUL.out).row HRW.out.all (HA2.out.mono (fun v x h => (h.keep (Upd.refl Nil _).drew).keep HUL.out)) (by have := HFZ.out.1; omega)).mono ?_; rintro e w' ⟨rfl, rfl⟩))
          go_wp2
          go_roundg (gk - 1)
          case measure => have := HJ.out; omega
          case rel => exact ⟨j + 1, by have := HJ.out; omega, by go_num, _, _, _, HTZ.out.drew.keep HUL.out, HFZ.out⟩
        · go_wp2_with (first
            | (go_at_call 16; refine (net_Look_any _ HT1.out.net HF.out i).mono ?_; rintro e w2 ⟨a2, c2, rfl, hown2, hu⟩
               have HT2 := Lib.hid (HT1.out.keep hu); have hk1' := hu.cell hk1 (fun f => f); have HO2 := Lib.hid hown2; have HU2 := Lib.hid hu; clear hu hown2)
            | (go_at_call 32; refine (ref_Look_any _ HT2.out.ref HF.out i).mono ?_; rintro e w3 ⟨a3, c3, rfl, hown3, hu⟩
               have HT3 := Lib.hid (HT2.out.keep hu); have HO3 := Lib.hid hown3; have HO2z := Lib.hid (HO2.out.keep hu); clear hu hown3)
            | (go_at_call 15; refine (bytesEqual_yes _ _ _ HO2z.out.row HO3.out.row rfl).mono ?_; rintro e w' ⟨rfl, rfl⟩)
            | (go_at_call 28; refine (spoil _ HO2z.out).mono ?_; rintro e wz ⟨rfl, hu⟩
               have HTZ := Lib.hid (HT3.out.far hu (fun k hk f => HG1.out k (by have := f.1; omega) hk) (fun k hk f => HG2.out k (by have := f.1; omega) hk) (fun k hk => by have h1 := hk.1; have h2 := HT.out.upd.size; omega)); have HFZ := HF; clear hu))
          obtain ⟨R2, E2, al2, cl2, vs2, hF2s, hs2, hR2, hE2, hb2, hown2, hall2⟩ := HTZ.out.ref
          have hx0 := hb2.cell 0
          have HB2 := Lib.hid hb2; have HW2 := Lib.hid hown2; have HA2 := Lib.hid hall2
          clear hR2 hE2 hb2 hown2 hall2
          go_wp2_with fail
          go_region_held3 (fun W => W.cell? ⟨w.heap.size + 1, 0, none⟩ = some (.slice al2 l.length cl2)) (first | exact hxl | exact hx0)
            (first
            | (go_at_call 19; refine (net_List _ HTZ.out.drew.net (by have := HFZ.out.1; omega) (fun x hx => by have := HFZ.out.2 x hx; omega)).mono ?_; rintro e wl ⟨R3, E3, a3, c3, vs3, rfl, hrows, _, _, hul⟩
               have hxl := hul.cell hx0 (fun f => f); have HRW := Lib.hid hrows; have HUL := Lib.hid hul; clear hrows hul)
            | (go_at_call 33; refine (sameImage_yes _ _ _ HRW.out.own.row (HW2.out.drew.keep HUL.out).row HRW.out.all (HA2.out.mono (fun v x h => (h.keep (Upd.refl Nil _).drew).keep HUL.out)) (by have := HFZ.out.1; omega)).mono ?_; rintro e w' ⟨rfl, rfl⟩))
          go_wp2
          go_roundg (gk - 1)
          case measure => have := HJ.out; omega
          case rel => exact ⟨j + 1, by have := HJ.out; omega, by go_num, _, _, _, HTZ.out.drew.keep HUL.out, HFZ.out⟩
      · go_wp2
        have HTZ := Lib.hid (HT.out.alloc (.cells #[.int .i64 op, .int .i64 i, .slice ab xs.length cb] 58)); have HFZ := HF
        obtain ⟨R2, E2, al2, cl2, vs2, hF2s, hs2, hR2, hE2, hb2, hown2, hall2⟩ := HTZ.out.ref
        have hx0 := hb2.cell 0
        have HB2 := Lib.hid hb2; have HW2 := Lib.hid hown2; have HA2 := Lib.hid hall2
        clear hR2 hE2 hb2 hown2 hall2
        go_wp2_with fail
        go_region_held3 (fun W => W.cell? ⟨w.heap.size + 1, 0, none⟩ = some (.slice al2 l.length cl2)) (first | exact hxl | exact hx0)
          (first
          | (go_at_call 19; refine (net_List _ HTZ.out.drew.net (by have := HFZ.out.1; omega) (fun x hx => by have := HFZ.out.2 x hx; omega)).mono ?_; rintro e wl ⟨R3, E3, a3, c3, vs3, rfl, hrows, _, _, hul⟩
             have hxl := hul.cell hx0 (fun f => f); have HRW := Lib.hid hrows; have HUL := Lib.hid hul; clear hrows hul)
          | (go_at_call 33; refine (sameImage_yes _ _ _ HRW.out.own.row (HW2.out.drew.keep HUL.out).row HRW.out.all (HA2.out.mono (fun v x h => (h.keep (Upd.refl Nil _).drew).keep HUL.out)) (by have := HFZ.out.1; omega)).mono ?_; rintro e w' ⟨rfl, rfl⟩))
        go_wp2
        go_ret
        exact ⟨rfl, HTZ.out.drew.keep HUL.out |>.upd⟩
    · go_wp2
      have HTZ := HT; have HFZ := HF
      obtain ⟨R2, E2, al2, cl2, vs2, hF2s, hs2, hR2, hE2, hb2, hown2, hall2⟩ := HTZ.out.ref
      have hx0 := hb2.cell 0
      have HB2 := Lib.hid hb2; have HW2 := Lib.hid hown2; have HA2 := Lib.hid hall2
      clear hR2 hE2 hb2 hown2 hall2
      go_wp2_with fail
      go_region_held3 (fun W => W.cell? ⟨w.heap.size + 1, 0, none⟩ = some (.slice al2 l.length cl2)) (first | exact hxl | exact hx0)
        (first
        | (go_at_call 19; refine (net_List _ HTZ.out.drew.net (by have := HFZ.out.1; omega) (fun x hx => by have := HFZ.out.2 x hx; omega)).mono ?_; rintro e wl ⟨R3, E3, a3, c3, vs3, rfl, hrows, _, _, hul⟩
           have hxl := hul.cell hx0 (fun f => f); have HRW := Lib.hid hrows; have HUL := Lib.hid hul; clear hrows hul)
        | (go_at_call 33; refine (sameImage_yes _ _ _ HRW.out.own.row (HW2.out.drew.keep HUL.out).row HRW.out.all (HA2.out.mono (fun v x h => (h.keep (Upd.refl Nil _).drew).keep HUL.out)) (by have := HFZ.out.1; omega)).mono ?_; rintro e w' ⟨rfl, rfl⟩))
      go_wp2
      go_ret
      exact ⟨rfl, HTZ.out.drew.keep HUL.out |>.upd⟩
end Go.Proofs.Ytbaombnnagidcaa.netLives
