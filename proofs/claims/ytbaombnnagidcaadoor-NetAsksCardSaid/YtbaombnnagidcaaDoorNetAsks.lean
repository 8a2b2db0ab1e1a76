/- NetAsks: the walk. -/
import Derived.Test.YtbaombnnagidcaaDoorPlainNet
import Derived.Deep.QuietTactic
namespace Go.Proofs.YtbaombnnagidcaaDoor.netAsks
open Go.RowKit

theorem eq_quiet {F G : Nat → Prop} (w : World) (n : Nat) {a b : Option Addr} (c d : Nat) {xs : List UInt8} (hx : Row F w a (bvs xs)) (hy : Row G w b (bvs xs)) :
    Calls Tryd.prog 16 #[.slice a xs.length c, .slice b xs.length d] (w.drewN n) fun e w' => e = .returned (.bool true) ∧ ∃ m, w' = w.drewN m :=
  (bytesEqual_yes (w.drewN n) c d (hx.drewN n) (hy.drewN n) rfl).mono (fun _ _ ⟨he, hw⟩ => ⟨he, n, hw.symm⟩)
theorem id_quiet (w : World) (n : Nat) (s : ByteArray) (hs : s.size ≤ 140737488355328) :
    Calls Tryd.prog 31 #[.string s] (w.drewN n) fun e w' => e = .returned (.bool (isIDL s)) ∧ ∃ m, w' = w.drewN m :=
  (net_IsID (w.drewN n) s hs).mono (fun _ _ ⟨he, hw⟩ => ⟨he, n, hw.symm⟩)
theorem xid_quiet (w : World) (n : Nat) (s : ByteArray) (hs : s.size ≤ 140737488355328) :
    Calls Tryd.prog 32 #[.string s] (w.drewN n) fun e w' => e = .returned (.bool (isIDL s)) ∧ ∃ m, w' = w.drewN m :=
  (ref_IsID (w.drewN n) s hs).mono (fun _ _ ⟨he, hw⟩ => ⟨he, n, hw.symm⟩)

set_option maxRecDepth 100000 in
set_option maxHeartbeats 4000000 in
theorem walk {F : Nat → Prop} (w : World) (r : Req) (h1 : r.id.size ≤ 140737488355328) (h2 : r.text.size ≤ 140737488355328) {a : Option Addr} (c : Nat) {b : List UInt8} (hr : Row F w a (bvs b)) (hA : a = none → c = 0) (hlc : b.length ≤ c) (hcm : c ≤ maxLen) (hx : b.length ≤ 140737488355328) (tab : Tab w) :
    Calls Tryd.prog 6 #[r.val, .slice a b.length c] w fun e w' => e = .returned (.bool true) ∧ Upd Nil w w' := by
  have HR := Lib.hid hr
  have HT := Lib.hid tab
  have HA := Lib.hid (And.intro hA (And.intro hlc hcm))
  have HN := Lib.hid (fun (w : World) (tab : Tab w) => net_Ask w r h1 h2 tab)
  have HX := Lib.hid (fun (w : World) => ref_Ask w r h1 h2)
  have hrd := read_ask b
  obtain ⟨⟨⟨qi, qk, qs, qt⟩, z⟩, hq⟩ : ∃ q, readAskL b = q := ⟨_, rfl⟩
  rw [hq] at hrd
  obtain ⟨ys, hys⟩ : ∃ ys, askB r = ys := ⟨_, rfl⟩
  obtain ⟨y, hy⟩ : ∃ y, askZ r = y := ⟨_, rfl⟩
  rw [hys, hy] at HN HX
  obtain ⟨id, kind, session, text⟩ := r
  unfold Req.val at HN HX ⊢
  dsimp only at h1 h2 HN HX ⊢
  have HQ := Lib.hid hq
  have HRd := Lib.hid hrd
  have HB0 := Lib.hid (Blk.new w 46 #[.string id, .int .i64 kind, .int .i64 session, .string text])
  clear hr hA hlc hcm tab hq hrd hys hy
  go_enter Tryd.func6, Tryd.ntmps6
  go_wp2_with (first
    | (go_at_call 27; refine (HN.out _ (HT.out.upd ((Upd.refl Nil w).alloc _) (fun f => f))).mono ?_; rintro e w1 ⟨a1, c1, rfl, g1, g2⟩; have HU1 := Lib.hid (((Upd.refl Nil w).alloc _).trans g2 (fun _ f _ => f)); have HO1 := Lib.hid g1; have hb := HB0.out.upd g2 (fun f => f); have k0 := hb.cell 0; have k1 := hb.cell 1; have k2 := hb.cell 2; have k3 := hb.cell 3; have HB1 := Lib.hid hb; clear hb g1 g2)
    | (go_at_call 28; refine (HX.out _).mono ?_; rintro e w2 ⟨a2, c2, rfl, g1, g2⟩; have HU2 := Lib.hid (HU1.out.trans g2 (fun _ f _ => f)); have HO2 := Lib.hid g1; have HO1' := Lib.hid (HO1.out.keep g2); have HB2 := Lib.hid (HB1.out.upd g2 (fun f => f)); clear g1 g2 k0 k1 k2 k3)
    | (go_at_call 29; refine (net_ReadAsk _ c (HR.out.keep HU2.out) hx (HT.out.upd HU2.out (fun f => f))).mono ?_; rintro e w3 hg; rw [HQ.out] at hg; unfold GotReq Req.val at hg; dsimp only at hg; obtain ⟨rfl, g2⟩ := hg; have HU3 := Lib.hid ((HU2.out.trans g2 (fun _ f _ => f)).alloc (.cells #[.string qi, .int .i64 qk, .int .i64 qs, .string qt] 46)); have u2 := (Upd.alloc g2 (.cells #[.string qi, .int .i64 qk, .int .i64 qs, .string qt] 46)); have HO13 := Lib.hid (HO1'.out.keep u2); have HO23 := Lib.hid (HO2.out.keep u2); have HB3 := Lib.hid (HB2.out.upd u2 (fun f => f)); have HQ3 := Lib.hid (Blk.new w3 46 #[.string qi, .int .i64 qk, .int .i64 qs, .string qt]); clear g2 u2)
    | (go_at_call 30; refine (ref_ReadAsk _ c (HR.out.keep HU3.out) HA.out.1 HA.out.2.1 HA.out.2.2 hx).mono ?_; rintro e w4 hg; rw [HRd.out] at hg; unfold GotReq Req.val at hg; dsimp only at hg; obtain ⟨rfl, g2⟩ := hg; have HU4 := Lib.hid ((HU3.out.trans g2 (fun _ f _ => f)).alloc (.cells #[.string qi, .int .i64 qk, .int .i64 qs, .string qt] 46)); have u2 := (Upd.alloc g2 (.cells #[.string qi, .int .i64 qk, .int .i64 qs, .string qt] 46)); have HO14 := Lib.hid (HO13.out.keep u2); have HO24 := Lib.hid (HO23.out.keep u2); have hb4 := HB3.out.upd u2 (fun f => f); have hq4 := HQ3.out.upd u2 (fun f => f); have hp4 := Blk.new w4 46 #[.string qi, .int .i64 qk, .int .i64 qs, .string qt]; have b0 := hb4.cell 0; have p0 := hq4.cell 0; have p1 := hq4.cell 1; have p2 := hq4.cell 2; have p3 := hq4.cell 3; clear g2 u2))
  go_quiet (first
    | (go_at_call 16; exact eq_quiet _ _ _ _ HO14.out.row HO24.out.row)
    | (go_at_call 31; exact id_quiet _ _ _ h1)
    | (go_at_call 32; exact xid_quiet _ _ _ h1))
  go_wp2
  go_ret
  exact ⟨rfl, HU4.out.drewN _⟩
end Go.Proofs.YtbaombnnagidcaaDoor.netAsks
