/- NetReplies: the walk. -/
import Derived.Test.YtbaombnnagidcaaDoorPlainNet
import Derived.Deep.QuietTactic
namespace Go.Proofs.YtbaombnnagidcaaDoor.netReplies
open Go.RowKit

theorem eq_quiet {F G : Nat → Prop} (w : World) (n : Nat) {a b : Option Addr} (c d : Nat) {xs : List UInt8} (hx : Row F w a (bvs xs)) (hy : Row G w b (bvs xs)) :
    Calls Tryd.prog 16 #[.slice a xs.length c, .slice b xs.length d] (w.drewN n) fun e w' => e = .returned (.bool true) ∧ ∃ m, w' = w.drewN m :=
  (bytesEqual_yes (w.drewN n) c d (hx.drewN n) (hy.drewN n) rfl).mono (fun _ _ ⟨he, hw⟩ => ⟨he, n, hw.symm⟩)
set_option maxRecDepth 100000 in
set_option maxHeartbeats 4000000 in
theorem walk {F : Nat → Prop} (w : World) (r : Rep) (h1 : r.id.size ≤ 140737488355328) (h2 : r.text.size ≤ 140737488355328) {a : Option Addr} (c : Nat) {b : List UInt8} (hr : Row F w a (bvs b)) (hA : a = none → c = 0) (hlc : b.length ≤ c) (hcm : c ≤ maxLen) (hx : b.length ≤ 140737488355328) (tab : Tab w) :
    Calls Tryd.prog 7 #[r.val, .slice a b.length c] w fun e w' => e = .returned (.bool true) ∧ Upd Nil w w' := by
  have HR := Lib.hid hr
  have HT := Lib.hid tab
  have HA := Lib.hid (And.intro hA (And.intro hlc hcm))
  have HN := Lib.hid (fun (w : World) (tab : Tab w) => net_Reply w r h1 h2 tab)
  have HX := Lib.hid (fun (w : World) => ref_Reply w r h1 h2)
  have hrd := read_reply b
  obtain ⟨⟨⟨qi, qk, qs, qy, qt⟩, z⟩, hq⟩ : ∃ q, readReplyL b = q := ⟨_, rfl⟩
  rw [hq] at hrd
  obtain ⟨ys, hys⟩ : ∃ ys, replyB r = ys := ⟨_, rfl⟩
  obtain ⟨y, hy⟩ : ∃ y, replyZ r = y := ⟨_, rfl⟩
  rw [hys, hy] at HN HX
  obtain ⟨id, status, session, why, text⟩ := r
  unfold Rep.val at HN HX ⊢
  dsimp only at h1 h2 HN HX ⊢
  have HQ := Lib.hid hq
  have HRd := Lib.hid hrd
  have HB0 := Lib.hid (Blk.new w 53 #[.string id, .int .i64 status, .int .i64 session, .int .i64 why, .string text])
  clear hr hA hlc hcm tab hq hrd hys hy
  go_enter Tryd.func7, Tryd.ntmps7
  go_wp2_with (first
    | (go_at_call 33; refine (HN.out _ (HT.out.upd ((Upd.refl Nil w).alloc _) (fun f => f))).mono ?_; rintro e w1 ⟨a1, c1, rfl, g1, g2⟩; have HU1 := Lib.hid (((Upd.refl Nil w).alloc _).trans g2 (fun _ f _ => f)); have HO1 := Lib.hid g1; have hb := HB0.out.upd g2 (fun f => f); have k0 := hb.cell 0; have k1 := hb.cell 1; have k2 := hb.cell 2; have k3 := hb.cell 3; have k4 := hb.cell 4; have HB1 := Lib.hid hb; clear hb g1 g2)
    | (go_at_call 34; refine (HX.out _).mono ?_; rintro e w2 ⟨a2, c2, rfl, g1, g2⟩; have HU2 := Lib.hid (HU1.out.trans g2 (fun _ f _ => f)); have HO2 := Lib.hid g1; have HO1' := Lib.hid (HO1.out.keep g2); have HB2 := Lib.hid (HB1.out.upd g2 (fun f => f)); clear g1 g2 k0 k1 k2 k3 k4)
    | (go_at_call 35; refine (net_ReadReply _ c (HR.out.keep HU2.out) hx (HT.out.upd HU2.out (fun f => f))).mono ?_; rintro e w3 hg; rw [HQ.out] at hg; unfold GotRep Rep.val at hg; dsimp only at hg; obtain ⟨rfl, g2⟩ := hg; have HU3 := Lib.hid ((HU2.out.trans g2 (fun _ f _ => f)).alloc (.cells #[.string qi, .int .i64 qk, .int .i64 qs, .int .i64 qy, .string qt] 53)); have u2 := (Upd.alloc g2 (.cells #[.string qi, .int .i64 qk, .int .i64 qs, .int .i64 qy, .string qt] 53)); have HO13 := Lib.hid (HO1'.out.keep u2); have HO23 := Lib.hid (HO2.out.keep u2); have HB3 := Lib.hid (HB2.out.upd u2 (fun f => f)); have HQ3 := Lib.hid (Blk.new w3 53 #[.string qi, .int .i64 qk, .int .i64 qs, .int .i64 qy, .string qt]); clear g2 u2)
    | (go_at_call 36; refine (ref_ReadReply _ c (HR.out.keep HU3.out) HA.out.1 HA.out.2.1 HA.out.2.2 hx).mono ?_; rintro e w4 hg; rw [HRd.out] at hg; unfold GotRep Rep.val at hg; dsimp only at hg; obtain ⟨rfl, g2⟩ := hg; have HU4 := Lib.hid ((HU3.out.trans g2 (fun _ f _ => f)).alloc (.cells #[.string qi, .int .i64 qk, .int .i64 qs, .int .i64 qy, .string qt] 53)); have u2 := (Upd.alloc g2 (.cells #[.string qi, .int .i64 qk, .int .i64 qs, .int .i64 qy, .string qt] 53)); have HO14 := Lib.hid (HO13.out.keep u2); have HO24 := Lib.hid (HO23.out.keep u2); have hb4 := HB3.out.upd u2 (fun f => f); have hq4 := HQ3.out.upd u2 (fun f => f); have hp4 := Blk.new w4 53 #[.string qi, .int .i64 qk, .int .i64 qs, .int .i64 qy, .string qt]; have b0 := hb4.cell 0; have p0 := hq4.cell 0; have p1 := hq4.cell 1; have p2 := hq4.cell 2; have p3 := hq4.cell 3; have p4 := hq4.cell 4; clear g2 u2)
    | (go_at_call 16; refine (bytesEqual_yes _ _ _ HO14.out.row HO24.out.row rfl).mono ?_; rintro e w' ⟨rfl, rfl⟩))
  go_ret
  exact ⟨rfl, HU4.out⟩
end Go.Proofs.YtbaombnnagidcaaDoor.netReplies
