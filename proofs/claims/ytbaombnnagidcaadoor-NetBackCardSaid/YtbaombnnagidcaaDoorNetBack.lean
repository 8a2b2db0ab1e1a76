/- NetBack: the walk. -/
import Derived.Test.YtbaombnnagidcaaDoorPlainNet
namespace Go.Proofs.YtbaombnnagidcaaDoor.netBack
open Go.RowKit

theorem ask_len {r : Req} (h : mayL r = true) : (askL r).length ≤ 140737488355328 := by
  have h1 := ask_body h
  have h2 := length_frameL (bodyL 1 [r.kind, r.session] r.id r.text)
  have h3 := length_put3 h1
  show (frameL _).length ≤ _
  omega
theorem reply_len {r : Rep} (h : mayRepL r = true) : (replyL r).length ≤ 140737488355328 := by
  have h1 := reply_body h
  have h2 := length_frameL (bodyL 2 [r.status, r.session, r.why] r.id r.text)
  have h3 := length_put3 h1
  show (frameL _).length ≤ _
  omega
theorem ask_no {r : Req} (h : mayL r = false) : askZ r = 1 := by simp [askZ, h]
theorem reply_no {r : Rep} (h : mayRepL r = false) : replyZ r = 1 := by simp [replyZ, h]

set_option maxRecDepth 100000 in
set_option maxHeartbeats 8000000 in
theorem walk_yy {F : Nat → Prop} (w : World) (r : Req) (h1 : r.id.size ≤ 140737488355328) (h2 : r.text.size ≤ 140737488355328) (p : Rep) (h3 : p.id.size ≤ 140737488355328) (h4 : p.text.size ≤ 140737488355328) {a : Option Addr} (c : Nat) {b : List UInt8} (hr : Row F w a (bvs b)) (hx : b.length ≤ 140737488355328) (tab : Tab w) (hmr : mayL r = true) (hmp : mayRepL p = true) :
    Calls Tryd.prog 8 #[r.val, p.val, .slice a b.length c] w fun e w' => e = .returned (.bool true) ∧ Upd Nil w w' := by
  have HR := Lib.hid hr
  have HT := Lib.hid tab
  have HN := Lib.hid (fun (w : World) (tab : Tab w) => net_Ask w r h1 h2 tab)
  have HM := Lib.hid (fun (w : World) (tab : Tab w) => net_Reply w p h3 h4 tab)
  have tokD : True := trivial
  obtain ⟨x1, x2⟩ := ask_yes hmr
  rw [x1, x2] at HN
  have hXl := ask_len hmr
  have hXa := readAsk_back hmr
  have hXr := readReply_ask hmr
  obtain ⟨X, hX⟩ : ∃ X, askL r = X := ⟨_, rfl⟩
  rw [hX] at HN hXl hXa hXr
  have tokA : True := trivial
  have tokB : True := trivial
  obtain ⟨y1, y2⟩ := reply_yes hmp
  rw [y1, y2] at HM
  have hYl := reply_len hmp
  have hYr := readReply_back hmp
  have hYa := readAsk_reply hmp
  obtain ⟨Y, hY⟩ : ∃ Y, replyL p = Y := ⟨_, rfl⟩
  rw [hY] at HM hYl hYr hYa
  have tokC : True := trivial
  obtain ⟨id, kind, session, text⟩ := r
  obtain ⟨jd, status, js, why, jt⟩ := p
  unfold Req.val at HN ⊢
  unfold Rep.val at HM ⊢
  dsimp only at h1 h2 h3 h4 HN HM ⊢
  have HXa := Lib.hid hXa
  have HXr := Lib.hid hXr
  have HYa := Lib.hid hYa
  have HYr := Lib.hid hYr
  have HU0 := Lib.hid (show Upd Nil w ((w.alloc (.cells #[.string id, .int .i64 kind, .int .i64 session, .string text] 46)).alloc (.cells #[.string jd, .int .i64 status, .int .i64 js, .int .i64 why, .string jt] 53)) from ((Upd.refl Nil w).alloc _).alloc _)
  have HR0 := Lib.hid (show Blk ((w.alloc (.cells #[.string id, .int .i64 kind, .int .i64 session, .string text] 46)).alloc (.cells #[.string jd, .int .i64 status, .int .i64 js, .int .i64 why, .string jt] 53)) w.heap.size 46 #[.string id, .int .i64 kind, .int .i64 session, .string text] from (Blk.new w _ _).alloc _)
  have HP0 := Lib.hid (show Blk ((w.alloc (.cells #[.string id, .int .i64 kind, .int .i64 session, .string text] 46)).alloc (.cells #[.string jd, .int .i64 status, .int .i64 js, .int .i64 why, .string jt] 53)) (w.heap.size + 1) 53 #[.string jd, .int .i64 status, .int .i64 js, .int .i64 why, .string jt] by
    have := Blk.new (w.alloc (.cells #[.string id, .int .i64 kind, .int .i64 session, .string text] 46)) 53 #[.string jd, .int .i64 status, .int .i64 js, .int .i64 why, .string jt]
    simp only [World.size_alloc] at this
    exact this)
  clear hr tab hX hY hmr hmp hXa hXr x1 x2 hYa hYr y1 y2
  rcases readAsk_inv b with ⟨q, hb, hmq, hbq⟩ | hb
  · obtain ⟨z1, z2⟩ := ask_yes hmq
    obtain ⟨f1, f2, _⟩ := mayL_facts hmq
    have HNq := Lib.hid (fun (w : World) (tab : Tab w) => net_Ask w q (by omega) (by omega) tab)
    rw [z1, z2, ← hbq] at HNq
    obtain ⟨qi, qk, qs, qt⟩ := q
    unfold Req.val at HNq
    dsimp only at HNq
    have HB := Lib.hid hb
    clear hb hmq hbq z1 z2 f1 f2
    go_enter Tryd.func8, Tryd.ntmps8
    go_wp2_with (first
      | (have _t := tokD; go_at_call 27; refine (HN.out _ (HT.out.upd HU0.out (fun f => f))).mono ?_; rintro e w1 ⟨a1, c1, rfl, g1, g2⟩; have HR1 := Lib.hid (HR0.out.upd g2 (fun f => f)); have HP1 := Lib.hid (HP0.out.upd g2 (fun f => f)); have HU1 := Lib.hid (HU0.out.trans g2 (fun _ f _ => f)); have HO1 := Lib.hid g1; have p0 := HP1.out.cell 0; have p1 := HP1.out.cell 1; have p2 := HP1.out.cell 2; have p3 := HP1.out.cell 3; have p4 := HP1.out.cell 4; clear tokD g1 g2)
      | (have _t := tokA; go_at_call 29; refine (net_ReadAsk _ c1 HO1.out.row hXl (HT.out.upd HU1.out (fun f => f))).mono ?_; rintro e w2 hg; rw [HXa.out] at hg; unfold GotReq Req.val at hg; dsimp only at hg; obtain ⟨rfl, g2⟩ := hg; have HR2 := Lib.hid (HR1.out.upd (Upd.alloc g2 (.cells #[.string id, .int .i64 kind, .int .i64 session, .string text] 46)) (fun f => f)); have HP2 := Lib.hid (HP1.out.upd (Upd.alloc g2 (.cells #[.string id, .int .i64 kind, .int .i64 session, .string text] 46)) (fun f => f)); have HO2 := Lib.hid (HO1.out.keep (Upd.alloc g2 (.cells #[.string id, .int .i64 kind, .int .i64 session, .string text] 46))); have HU2 := Lib.hid (HU1.out.trans (Upd.alloc g2 (.cells #[.string id, .int .i64 kind, .int .i64 session, .string text] 46)) (fun _ f _ => f)); have HQ2 := Lib.hid (Blk.new w2 46 #[.string id, .int .i64 kind, .int .i64 session, .string text]); clear tokA g2 p0 p1 p2 p3 p4)
      | (have _t := tokB; go_at_call 35; refine (net_ReadReply _ c1 HO2.out.row hXl (HT.out.upd HU2.out (fun f => f))).mono ?_; rintro e w3 hg; rw [HXr.out] at hg; unfold GotRep Rep.val Rep.zero at hg; dsimp only at hg; obtain ⟨rfl, g2⟩ := hg; have HR3 := Lib.hid (HR2.out.upd (Upd.alloc g2 (.cells #[.string ⟨#[]⟩, .int .i64 0, .int .i64 0, .int .i64 0, .string ⟨#[]⟩] 53)) (fun f => f)); have HP3 := Lib.hid (HP2.out.upd (Upd.alloc g2 (.cells #[.string ⟨#[]⟩, .int .i64 0, .int .i64 0, .int .i64 0, .string ⟨#[]⟩] 53)) (fun f => f)); have HQ3 := Lib.hid (HQ2.out.upd (Upd.alloc g2 (.cells #[.string ⟨#[]⟩, .int .i64 0, .int .i64 0, .int .i64 0, .string ⟨#[]⟩] 53)) (fun f => f)); have HU3 := Lib.hid (HU2.out.trans (Upd.alloc g2 (.cells #[.string ⟨#[]⟩, .int .i64 0, .int .i64 0, .int .i64 0, .string ⟨#[]⟩] 53)) (fun _ f _ => f)); have r0 := HR3.out.cell 0; have r1 := HR3.out.cell 1; have r2 := HR3.out.cell 2; have r3 := HR3.out.cell 3; have q0 := HQ3.out.cell 0; have q1 := HQ3.out.cell 1; have q2 := HQ3.out.cell 2; have q3 := HQ3.out.cell 3; have p0 := HP3.out.cell 0; have p1 := HP3.out.cell 1; have p2 := HP3.out.cell 2; have p3 := HP3.out.cell 3; have p4 := HP3.out.cell 4; clear tokB g2)
      | (go_at_call 33; refine (HM.out _ (HT.out.upd HU3.out (fun f => f))).mono ?_; rintro e w4 ⟨a4, c4, rfl, g1, g2⟩; have HP4 := Lib.hid (HP3.out.upd g2 (fun f => f)); have HU4 := Lib.hid (HU3.out.trans g2 (fun _ f _ => f)); have HV4 := Lib.hid g1; clear g1 g2)
      | (go_at_call 35; refine (net_ReadReply _ c4 HV4.out.row hYl (HT.out.upd HU4.out (fun f => f))).mono ?_; rintro e w5 hg; rw [HYr.out] at hg; unfold GotRep Rep.val at hg; dsimp only at hg; obtain ⟨rfl, g2⟩ := hg; have HP5 := Lib.hid (HP4.out.upd (Upd.alloc g2 (.cells #[.string jd, .int .i64 status, .int .i64 js, .int .i64 why, .string jt] 53)) (fun f => f)); have HY5 := Lib.hid (HV4.out.keep (Upd.alloc g2 (.cells #[.string jd, .int .i64 status, .int .i64 js, .int .i64 why, .string jt] 53))); have HU5 := Lib.hid (HU4.out.trans (Upd.alloc g2 (.cells #[.string jd, .int .i64 status, .int .i64 js, .int .i64 why, .string jt] 53)) (fun _ f _ => f)); have HV5 := Lib.hid (Blk.new w5 53 #[.string jd, .int .i64 status, .int .i64 js, .int .i64 why, .string jt]); clear g2)
      | (have _t := tokC; go_at_call 29; refine (net_ReadAsk _ c4 HY5.out.row hYl (HT.out.upd HU5.out (fun f => f))).mono ?_; rintro e w6 hg; rw [HYa.out] at hg; unfold GotReq Req.val Req.zero at hg; dsimp only at hg; obtain ⟨rfl, g2⟩ := hg; have HP6 := Lib.hid (HP5.out.upd (Upd.alloc g2 (.cells #[.string ⟨#[]⟩, .int .i64 0, .int .i64 0, .string ⟨#[]⟩] 46)) (fun f => f)); have HV6 := Lib.hid (HV5.out.upd (Upd.alloc g2 (.cells #[.string ⟨#[]⟩, .int .i64 0, .int .i64 0, .string ⟨#[]⟩] 46)) (fun f => f)); have HU6 := Lib.hid (HU5.out.trans (Upd.alloc g2 (.cells #[.string ⟨#[]⟩, .int .i64 0, .int .i64 0, .string ⟨#[]⟩] 46)) (fun _ f _ => f)); have m0 := HP6.out.cell 0; have m1 := HP6.out.cell 1; have m2 := HP6.out.cell 2; have m3 := HP6.out.cell 3; have m4 := HP6.out.cell 4; have v0 := HV6.out.cell 0; have v1 := HV6.out.cell 1; have v2 := HV6.out.cell 2; have v3 := HV6.out.cell 3; have v4 := HV6.out.cell 4; clear tokC g2)
      | (go_at_call 29; refine (net_ReadAsk _ c (HR.out.keep HU6.out) hx (HT.out.upd HU6.out (fun f => f))).mono ?_; rintro e w7 hg; rw [HB.out] at hg; unfold GotReq Req.val at hg; dsimp only at hg; obtain ⟨rfl, g2⟩ := hg; have HU7 := Lib.hid (HU6.out.trans (Upd.alloc g2 (.cells #[.string qi, .int .i64 qk, .int .i64 qs, .string qt] 46)) (fun _ f _ => f)); clear g2)
      | (go_at_call 27; refine (HNq.out _ (HT.out.upd HU7.out (fun f => f))).mono ?_; rintro e w8 ⟨a8, c8, rfl, g1, g2⟩; have HU8 := Lib.hid (HU7.out.trans g2 (fun _ f _ => f)); have HO8 := Lib.hid g1; clear g1 g2)
      | (go_at_call 16; refine (bytesEqual_yes _ c8 c HO8.out.row (HR.out.keep HU8.out) rfl).mono ?_; rintro e w' ⟨rfl, rfl⟩))
    go_ret
    exact ⟨rfl, HU8.out⟩
  · have HB := Lib.hid hb
    clear hb
    go_enter Tryd.func8, Tryd.ntmps8
    go_wp2_with (first
      | (have _t := tokD; go_at_call 27; refine (HN.out _ (HT.out.upd HU0.out (fun f => f))).mono ?_; rintro e w1 ⟨a1, c1, rfl, g1, g2⟩; have HR1 := Lib.hid (HR0.out.upd g2 (fun f => f)); have HP1 := Lib.hid (HP0.out.upd g2 (fun f => f)); have HU1 := Lib.hid (HU0.out.trans g2 (fun _ f _ => f)); have HO1 := Lib.hid g1; have p0 := HP1.out.cell 0; have p1 := HP1.out.cell 1; have p2 := HP1.out.cell 2; have p3 := HP1.out.cell 3; have p4 := HP1.out.cell 4; clear tokD g1 g2)
      | (have _t := tokA; go_at_call 29; refine (net_ReadAsk _ c1 HO1.out.row hXl (HT.out.upd HU1.out (fun f => f))).mono ?_; rintro e w2 hg; rw [HXa.out] at hg; unfold GotReq Req.val at hg; dsimp only at hg; obtain ⟨rfl, g2⟩ := hg; have HR2 := Lib.hid (HR1.out.upd (Upd.alloc g2 (.cells #[.string id, .int .i64 kind, .int .i64 session, .string text] 46)) (fun f => f)); have HP2 := Lib.hid (HP1.out.upd (Upd.alloc g2 (.cells #[.string id, .int .i64 kind, .int .i64 session, .string text] 46)) (fun f => f)); have HO2 := Lib.hid (HO1.out.keep (Upd.alloc g2 (.cells #[.string id, .int .i64 kind, .int .i64 session, .string text] 46))); have HU2 := Lib.hid (HU1.out.trans (Upd.alloc g2 (.cells #[.string id, .int .i64 kind, .int .i64 session, .string text] 46)) (fun _ f _ => f)); have HQ2 := Lib.hid (Blk.new w2 46 #[.string id, .int .i64 kind, .int .i64 session, .string text]); clear tokA g2 p0 p1 p2 p3 p4)
      | (have _t := tokB; go_at_call 35; refine (net_ReadReply _ c1 HO2.out.row hXl (HT.out.upd HU2.out (fun f => f))).mono ?_; rintro e w3 hg; rw [HXr.out] at hg; unfold GotRep Rep.val Rep.zero at hg; dsimp only at hg; obtain ⟨rfl, g2⟩ := hg; have HR3 := Lib.hid (HR2.out.upd (Upd.alloc g2 (.cells #[.string ⟨#[]⟩, .int .i64 0, .int .i64 0, .int .i64 0, .string ⟨#[]⟩] 53)) (fun f => f)); have HP3 := Lib.hid (HP2.out.upd (Upd.alloc g2 (.cells #[.string ⟨#[]⟩, .int .i64 0, .int .i64 0, .int .i64 0, .string ⟨#[]⟩] 53)) (fun f => f)); have HQ3 := Lib.hid (HQ2.out.upd (Upd.alloc g2 (.cells #[.string ⟨#[]⟩, .int .i64 0, .int .i64 0, .int .i64 0, .string ⟨#[]⟩] 53)) (fun f => f)); have HU3 := Lib.hid (HU2.out.trans (Upd.alloc g2 (.cells #[.string ⟨#[]⟩, .int .i64 0, .int .i64 0, .int .i64 0, .string ⟨#[]⟩] 53)) (fun _ f _ => f)); have r0 := HR3.out.cell 0; have r1 := HR3.out.cell 1; have r2 := HR3.out.cell 2; have r3 := HR3.out.cell 3; have q0 := HQ3.out.cell 0; have q1 := HQ3.out.cell 1; have q2 := HQ3.out.cell 2; have q3 := HQ3.out.cell 3; have p0 := HP3.out.cell 0; have p1 := HP3.out.cell 1; have p2 := HP3.out.cell 2; have p3 := HP3.out.cell 3; have p4 := HP3.out.cell 4; clear tokB g2)
      | (go_at_call 33; refine (HM.out _ (HT.out.upd HU3.out (fun f => f))).mono ?_; rintro e w4 ⟨a4, c4, rfl, g1, g2⟩; have HP4 := Lib.hid (HP3.out.upd g2 (fun f => f)); have HU4 := Lib.hid (HU3.out.trans g2 (fun _ f _ => f)); have HV4 := Lib.hid g1; clear g1 g2)
      | (go_at_call 35; refine (net_ReadReply _ c4 HV4.out.row hYl (HT.out.upd HU4.out (fun f => f))).mono ?_; rintro e w5 hg; rw [HYr.out] at hg; unfold GotRep Rep.val at hg; dsimp only at hg; obtain ⟨rfl, g2⟩ := hg; have HP5 := Lib.hid (HP4.out.upd (Upd.alloc g2 (.cells #[.string jd, .int .i64 status, .int .i64 js, .int .i64 why, .string jt] 53)) (fun f => f)); have HY5 := Lib.hid (HV4.out.keep (Upd.alloc g2 (.cells #[.string jd, .int .i64 status, .int .i64 js, .int .i64 why, .string jt] 53))); have HU5 := Lib.hid (HU4.out.trans (Upd.alloc g2 (.cells #[.string jd, .int .i64 status, .int .i64 js, .int .i64 why, .string jt] 53)) (fun _ f _ => f)); have HV5 := Lib.hid (Blk.new w5 53 #[.string jd, .int .i64 status, .int .i64 js, .int .i64 why, .string jt]); clear g2)
      | (have _t := tokC; go_at_call 29; refine (net_ReadAsk _ c4 HY5.out.row hYl (HT.out.upd HU5.out (fun f => f))).mono ?_; rintro e w6 hg; rw [HYa.out] at hg; unfold GotReq Req.val Req.zero at hg; dsimp only at hg; obtain ⟨rfl, g2⟩ := hg; have HP6 := Lib.hid (HP5.out.upd (Upd.alloc g2 (.cells #[.string ⟨#[]⟩, .int .i64 0, .int .i64 0, .string ⟨#[]⟩] 46)) (fun f => f)); have HV6 := Lib.hid (HV5.out.upd (Upd.alloc g2 (.cells #[.string ⟨#[]⟩, .int .i64 0, .int .i64 0, .string ⟨#[]⟩] 46)) (fun f => f)); have HU6 := Lib.hid (HU5.out.trans (Upd.alloc g2 (.cells #[.string ⟨#[]⟩, .int .i64 0, .int .i64 0, .string ⟨#[]⟩] 46)) (fun _ f _ => f)); have m0 := HP6.out.cell 0; have m1 := HP6.out.cell 1; have m2 := HP6.out.cell 2; have m3 := HP6.out.cell 3; have m4 := HP6.out.cell 4; have v0 := HV6.out.cell 0; have v1 := HV6.out.cell 1; have v2 := HV6.out.cell 2; have v3 := HV6.out.cell 3; have v4 := HV6.out.cell 4; clear tokC g2)
      | (go_at_call 29; refine (net_ReadAsk _ c (HR.out.keep HU6.out) hx (HT.out.upd HU6.out (fun f => f))).mono ?_; rintro e w7 hg; rw [HB.out] at hg; unfold GotReq Req.val Req.zero at hg; dsimp only at hg; obtain ⟨rfl, g2⟩ := hg; have HU7 := Lib.hid (HU6.out.trans (Upd.alloc g2 (.cells #[.string ⟨#[]⟩, .int .i64 0, .int .i64 0, .string ⟨#[]⟩] 46)) (fun _ f _ => f)); clear g2))
    go_ret
    exact ⟨rfl, HU7.out⟩

set_option maxRecDepth 100000 in
set_option maxHeartbeats 8000000 in
theorem walk_yn {F : Nat → Prop} (w : World) (r : Req) (h1 : r.id.size ≤ 140737488355328) (h2 : r.text.size ≤ 140737488355328) (p : Rep) (h3 : p.id.size ≤ 140737488355328) (h4 : p.text.size ≤ 140737488355328) {a : Option Addr} (c : Nat) {b : List UInt8} (hr : Row F w a (bvs b)) (hx : b.length ≤ 140737488355328) (tab : Tab w) (hmr : mayL r = true) (hmp : mayRepL p = false) :
    Calls Tryd.prog 8 #[r.val, p.val, .slice a b.length c] w fun e w' => e = .returned (.bool true) ∧ Upd Nil w w' := by
  have HR := Lib.hid hr
  have HT := Lib.hid tab
  have HN := Lib.hid (fun (w : World) (tab : Tab w) => net_Ask w r h1 h2 tab)
  have HM := Lib.hid (fun (w : World) (tab : Tab w) => net_Reply w p h3 h4 tab)
  have tokD : True := trivial
  obtain ⟨x1, x2⟩ := ask_yes hmr
  rw [x1, x2] at HN
  have hXl := ask_len hmr
  have hXa := readAsk_back hmr
  have hXr := readReply_ask hmr
  obtain ⟨X, hX⟩ : ∃ X, askL r = X := ⟨_, rfl⟩
  rw [hX] at HN hXl hXa hXr
  have tokA : True := trivial
  have tokB : True := trivial
  rw [reply_no hmp] at HM
  obtain ⟨Y, hY⟩ : ∃ Y, replyB p = Y := ⟨_, rfl⟩
  rw [hY] at HM
  obtain ⟨id, kind, session, text⟩ := r
  obtain ⟨jd, status, js, why, jt⟩ := p
  unfold Req.val at HN ⊢
  unfold Rep.val at HM ⊢
  dsimp only at h1 h2 h3 h4 HN HM ⊢
  have HXa := Lib.hid hXa
  have HXr := Lib.hid hXr
  have HU0 := Lib.hid (show Upd Nil w ((w.alloc (.cells #[.string id, .int .i64 kind, .int .i64 session, .string text] 46)).alloc (.cells #[.string jd, .int .i64 status, .int .i64 js, .int .i64 why, .string jt] 53)) from ((Upd.refl Nil w).alloc _).alloc _)
  have HR0 := Lib.hid (show Blk ((w.alloc (.cells #[.string id, .int .i64 kind, .int .i64 session, .string text] 46)).alloc (.cells #[.string jd, .int .i64 status, .int .i64 js, .int .i64 why, .string jt] 53)) w.heap.size 46 #[.string id, .int .i64 kind, .int .i64 session, .string text] from (Blk.new w _ _).alloc _)
  have HP0 := Lib.hid (show Blk ((w.alloc (.cells #[.string id, .int .i64 kind, .int .i64 session, .string text] 46)).alloc (.cells #[.string jd, .int .i64 status, .int .i64 js, .int .i64 why, .string jt] 53)) (w.heap.size + 1) 53 #[.string jd, .int .i64 status, .int .i64 js, .int .i64 why, .string jt] by
    have := Blk.new (w.alloc (.cells #[.string id, .int .i64 kind, .int .i64 session, .string text] 46)) 53 #[.string jd, .int .i64 status, .int .i64 js, .int .i64 why, .string jt]
    simp only [World.size_alloc] at this
    exact this)
  clear hr tab hX hY hmr hmp hXa hXr x1 x2
  rcases readAsk_inv b with ⟨q, hb, hmq, hbq⟩ | hb
  · obtain ⟨z1, z2⟩ := ask_yes hmq
    obtain ⟨f1, f2, _⟩ := mayL_facts hmq
    have HNq := Lib.hid (fun (w : World) (tab : Tab w) => net_Ask w q (by omega) (by omega) tab)
    rw [z1, z2, ← hbq] at HNq
    obtain ⟨qi, qk, qs, qt⟩ := q
    unfold Req.val at HNq
    dsimp only at HNq
    have HB := Lib.hid hb
    clear hb hmq hbq z1 z2 f1 f2
    go_enter Tryd.func8, Tryd.ntmps8
    go_wp2_with (first
      | (have _t := tokD; go_at_call 27; refine (HN.out _ (HT.out.upd HU0.out (fun f => f))).mono ?_; rintro e w1 ⟨a1, c1, rfl, g1, g2⟩; have HR1 := Lib.hid (HR0.out.upd g2 (fun f => f)); have HP1 := Lib.hid (HP0.out.upd g2 (fun f => f)); have HU1 := Lib.hid (HU0.out.trans g2 (fun _ f _ => f)); have HO1 := Lib.hid g1; have p0 := HP1.out.cell 0; have p1 := HP1.out.cell 1; have p2 := HP1.out.cell 2; have p3 := HP1.out.cell 3; have p4 := HP1.out.cell 4; clear tokD g1 g2)
      | (have _t := tokA; go_at_call 29; refine (net_ReadAsk _ c1 HO1.out.row hXl (HT.out.upd HU1.out (fun f => f))).mono ?_; rintro e w2 hg; rw [HXa.out] at hg; unfold GotReq Req.val at hg; dsimp only at hg; obtain ⟨rfl, g2⟩ := hg; have HR2 := Lib.hid (HR1.out.upd (Upd.alloc g2 (.cells #[.string id, .int .i64 kind, .int .i64 session, .string text] 46)) (fun f => f)); have HP2 := Lib.hid (HP1.out.upd (Upd.alloc g2 (.cells #[.string id, .int .i64 kind, .int .i64 session, .string text] 46)) (fun f => f)); have HO2 := Lib.hid (HO1.out.keep (Upd.alloc g2 (.cells #[.string id, .int .i64 kind, .int .i64 session, .string text] 46))); have HU2 := Lib.hid (HU1.out.trans (Upd.alloc g2 (.cells #[.string id, .int .i64 kind, .int .i64 session, .string text] 46)) (fun _ f _ => f)); have HQ2 := Lib.hid (Blk.new w2 46 #[.string id, .int .i64 kind, .int .i64 session, .string text]); clear tokA g2 p0 p1 p2 p3 p4)
      | (have _t := tokB; go_at_call 35; refine (net_ReadReply _ c1 HO2.out.row hXl (HT.out.upd HU2.out (fun f => f))).mono ?_; rintro e w3 hg; rw [HXr.out] at hg; unfold GotRep Rep.val Rep.zero at hg; dsimp only at hg; obtain ⟨rfl, g2⟩ := hg; have HR3 := Lib.hid (HR2.out.upd (Upd.alloc g2 (.cells #[.string ⟨#[]⟩, .int .i64 0, .int .i64 0, .int .i64 0, .string ⟨#[]⟩] 53)) (fun f => f)); have HP3 := Lib.hid (HP2.out.upd (Upd.alloc g2 (.cells #[.string ⟨#[]⟩, .int .i64 0, .int .i64 0, .int .i64 0, .string ⟨#[]⟩] 53)) (fun f => f)); have HQ3 := Lib.hid (HQ2.out.upd (Upd.alloc g2 (.cells #[.string ⟨#[]⟩, .int .i64 0, .int .i64 0, .int .i64 0, .string ⟨#[]⟩] 53)) (fun f => f)); have HU3 := Lib.hid (HU2.out.trans (Upd.alloc g2 (.cells #[.string ⟨#[]⟩, .int .i64 0, .int .i64 0, .int .i64 0, .string ⟨#[]⟩] 53)) (fun _ f _ => f)); have r0 := HR3.out.cell 0; have r1 := HR3.out.cell 1; have r2 := HR3.out.cell 2; have r3 := HR3.out.cell 3; have q0 := HQ3.out.cell 0; have q1 := HQ3.out.cell 1; have q2 := HQ3.out.cell 2; have q3 := HQ3.out.cell 3; have p0 := HP3.out.cell 0; have p1 := HP3.out.cell 1; have p2 := HP3.out.cell 2; have p3 := HP3.out.cell 3; have p4 := HP3.out.cell 4; clear tokB g2)
      | (go_at_call 33; refine (HM.out _ (HT.out.upd HU3.out (fun f => f))).mono ?_; rintro e w4 ⟨a4, c4, rfl, g1, g2⟩; have HP4 := Lib.hid (HP3.out.upd g2 (fun f => f)); have HU4 := Lib.hid (HU3.out.trans g2 (fun _ f _ => f)); have HV4 := Lib.hid g1; clear g1 g2)
      | (go_at_call 29; refine (net_ReadAsk _ c (HR.out.keep HU4.out) hx (HT.out.upd HU4.out (fun f => f))).mono ?_; rintro e w7 hg; rw [HB.out] at hg; unfold GotReq Req.val at hg; dsimp only at hg; obtain ⟨rfl, g2⟩ := hg; have HU7 := Lib.hid (HU4.out.trans (Upd.alloc g2 (.cells #[.string qi, .int .i64 qk, .int .i64 qs, .string qt] 46)) (fun _ f _ => f)); clear g2)
      | (go_at_call 27; refine (HNq.out _ (HT.out.upd HU7.out (fun f => f))).mono ?_; rintro e w8 ⟨a8, c8, rfl, g1, g2⟩; have HU8 := Lib.hid (HU7.out.trans g2 (fun _ f _ => f)); have HO8 := Lib.hid g1; clear g1 g2)
      | (go_at_call 16; refine (bytesEqual_yes _ c8 c HO8.out.row (HR.out.keep HU8.out) rfl).mono ?_; rintro e w' ⟨rfl, rfl⟩))
    go_ret
    exact ⟨rfl, HU8.out⟩
  · have HB := Lib.hid hb
    clear hb
    go_enter Tryd.func8, Tryd.ntmps8
    go_wp2_with (first
      | (have _t := tokD; go_at_call 27; refine (HN.out _ (HT.out.upd HU0.out (fun f => f))).mono ?_; rintro e w1 ⟨a1, c1, rfl, g1, g2⟩; have HR1 := Lib.hid (HR0.out.upd g2 (fun f => f)); have HP1 := Lib.hid (HP0.out.upd g2 (fun f => f)); have HU1 := Lib.hid (HU0.out.trans g2 (fun _ f _ => f)); have HO1 := Lib.hid g1; have p0 := HP1.out.cell 0; have p1 := HP1.out.cell 1; have p2 := HP1.out.cell 2; have p3 := HP1.out.cell 3; have p4 := HP1.out.cell 4; clear tokD g1 g2)
      | (have _t := tokA; go_at_call 29; refine (net_ReadAsk _ c1 HO1.out.row hXl (HT.out.upd HU1.out (fun f => f))).mono ?_; rintro e w2 hg; rw [HXa.out] at hg; unfold GotReq Req.val at hg; dsimp only at hg; obtain ⟨rfl, g2⟩ := hg; have HR2 := Lib.hid (HR1.out.upd (Upd.alloc g2 (.cells #[.string id, .int .i64 kind, .int .i64 session, .string text] 46)) (fun f => f)); have HP2 := Lib.hid (HP1.out.upd (Upd.alloc g2 (.cells #[.string id, .int .i64 kind, .int .i64 session, .string text] 46)) (fun f => f)); have HO2 := Lib.hid (HO1.out.keep (Upd.alloc g2 (.cells #[.string id, .int .i64 kind, .int .i64 session, .string text] 46))); have HU2 := Lib.hid (HU1.out.trans (Upd.alloc g2 (.cells #[.string id, .int .i64 kind, .int .i64 session, .string text] 46)) (fun _ f _ => f)); have HQ2 := Lib.hid (Blk.new w2 46 #[.string id, .int .i64 kind, .int .i64 session, .string text]); clear tokA g2 p0 p1 p2 p3 p4)
      | (have _t := tokB; go_at_call 35; refine (net_ReadReply _ c1 HO2.out.row hXl (HT.out.upd HU2.out (fun f => f))).mono ?_; rintro e w3 hg; rw [HXr.out] at hg; unfold GotRep Rep.val Rep.zero at hg; dsimp only at hg; obtain ⟨rfl, g2⟩ := hg; have HR3 := Lib.hid (HR2.out.upd (Upd.alloc g2 (.cells #[.string ⟨#[]⟩, .int .i64 0, .int .i64 0, .int .i64 0, .string ⟨#[]⟩] 53)) (fun f => f)); have HP3 := Lib.hid (HP2.out.upd (Upd.alloc g2 (.cells #[.string ⟨#[]⟩, .int .i64 0, .int .i64 0, .int .i64 0, .string ⟨#[]⟩] 53)) (fun f => f)); have HQ3 := Lib.hid (HQ2.out.upd (Upd.alloc g2 (.cells #[.string ⟨#[]⟩, .int .i64 0, .int .i64 0, .int .i64 0, .string ⟨#[]⟩] 53)) (fun f => f)); have HU3 := Lib.hid (HU2.out.trans (Upd.alloc g2 (.cells #[.string ⟨#[]⟩, .int .i64 0, .int .i64 0, .int .i64 0, .string ⟨#[]⟩] 53)) (fun _ f _ => f)); have r0 := HR3.out.cell 0; have r1 := HR3.out.cell 1; have r2 := HR3.out.cell 2; have r3 := HR3.out.cell 3; have q0 := HQ3.out.cell 0; have q1 := HQ3.out.cell 1; have q2 := HQ3.out.cell 2; have q3 := HQ3.out.cell 3; have p0 := HP3.out.cell 0; have p1 := HP3.out.cell 1; have p2 := HP3.out.cell 2; have p3 := HP3.out.cell 3; have p4 := HP3.out.cell 4; clear tokB g2)
      | (go_at_call 33; refine (HM.out _ (HT.out.upd HU3.out (fun f => f))).mono ?_; rintro e w4 ⟨a4, c4, rfl, g1, g2⟩; have HP4 := Lib.hid (HP3.out.upd g2 (fun f => f)); have HU4 := Lib.hid (HU3.out.trans g2 (fun _ f _ => f)); have HV4 := Lib.hid g1; clear g1 g2)
      | (go_at_call 29; refine (net_ReadAsk _ c (HR.out.keep HU4.out) hx (HT.out.upd HU4.out (fun f => f))).mono ?_; rintro e w7 hg; rw [HB.out] at hg; unfold GotReq Req.val Req.zero at hg; dsimp only at hg; obtain ⟨rfl, g2⟩ := hg; have HU7 := Lib.hid (HU4.out.trans (Upd.alloc g2 (.cells #[.string ⟨#[]⟩, .int .i64 0, .int .i64 0, .string ⟨#[]⟩] 46)) (fun _ f _ => f)); clear g2))
    go_ret
    exact ⟨rfl, HU7.out⟩

set_option maxRecDepth 100000 in
set_option maxHeartbeats 8000000 in
theorem walk_ny {F : Nat → Prop} (w : World) (r : Req) (h1 : r.id.size ≤ 140737488355328) (h2 : r.text.size ≤ 140737488355328) (p : Rep) (h3 : p.id.size ≤ 140737488355328) (h4 : p.text.size ≤ 140737488355328) {a : Option Addr} (c : Nat) {b : List UInt8} (hr : Row F w a (bvs b)) (hx : b.length ≤ 140737488355328) (tab : Tab w) (hmr : mayL r = false) (hmp : mayRepL p = true) :
    Calls Tryd.prog 8 #[r.val, p.val, .slice a b.length c] w fun e w' => e = .returned (.bool true) ∧ Upd Nil w w' := by
  have HR := Lib.hid hr
  have HT := Lib.hid tab
  have HN := Lib.hid (fun (w : World) (tab : Tab w) => net_Ask w r h1 h2 tab)
  have HM := Lib.hid (fun (w : World) (tab : Tab w) => net_Reply w p h3 h4 tab)
  have tokD : True := trivial
  rw [ask_no hmr] at HN
  obtain ⟨X, hX⟩ : ∃ X, askB r = X := ⟨_, rfl⟩
  rw [hX] at HN
  obtain ⟨y1, y2⟩ := reply_yes hmp
  rw [y1, y2] at HM
  have hYl := reply_len hmp
  have hYr := readReply_back hmp
  have hYa := readAsk_reply hmp
  obtain ⟨Y, hY⟩ : ∃ Y, replyL p = Y := ⟨_, rfl⟩
  rw [hY] at HM hYl hYr hYa
  have tokC : True := trivial
  obtain ⟨id, kind, session, text⟩ := r
  obtain ⟨jd, status, js, why, jt⟩ := p
  unfold Req.val at HN ⊢
  unfold Rep.val at HM ⊢
  dsimp only at h1 h2 h3 h4 HN HM ⊢
  have HYa := Lib.hid hYa
  have HYr := Lib.hid hYr
  have HU0 := Lib.hid (show Upd Nil w ((w.alloc (.cells #[.string id, .int .i64 kind, .int .i64 session, .string text] 46)).alloc (.cells #[.string jd, .int .i64 status, .int .i64 js, .int .i64 why, .string jt] 53)) from ((Upd.refl Nil w).alloc _).alloc _)
  have HR0 := Lib.hid (show Blk ((w.alloc (.cells #[.string id, .int .i64 kind, .int .i64 session, .string text] 46)).alloc (.cells #[.string jd, .int .i64 status, .int .i64 js, .int .i64 why, .string jt] 53)) w.heap.size 46 #[.string id, .int .i64 kind, .int .i64 session, .string text] from (Blk.new w _ _).alloc _)
  have HP0 := Lib.hid (show Blk ((w.alloc (.cells #[.string id, .int .i64 kind, .int .i64 session, .string text] 46)).alloc (.cells #[.string jd, .int .i64 status, .int .i64 js, .int .i64 why, .string jt] 53)) (w.heap.size + 1) 53 #[.string jd, .int .i64 status, .int .i64 js, .int .i64 why, .string jt] by
    have := Blk.new (w.alloc (.cells #[.string id, .int .i64 kind, .int .i64 session, .string text] 46)) 53 #[.string jd, .int .i64 status, .int .i64 js, .int .i64 why, .string jt]
    simp only [World.size_alloc] at this
    exact this)
  clear hr tab hX hY hmr hmp hYa hYr y1 y2
  rcases readAsk_inv b with ⟨q, hb, hmq, hbq⟩ | hb
  · obtain ⟨z1, z2⟩ := ask_yes hmq
    obtain ⟨f1, f2, _⟩ := mayL_facts hmq
    have HNq := Lib.hid (fun (w : World) (tab : Tab w) => net_Ask w q (by omega) (by omega) tab)
    rw [z1, z2, ← hbq] at HNq
    obtain ⟨qi, qk, qs, qt⟩ := q
    unfold Req.val at HNq
    dsimp only at HNq
    have HB := Lib.hid hb
    clear hb hmq hbq z1 z2 f1 f2
    go_enter Tryd.func8, Tryd.ntmps8
    go_wp2_with (first
      | (have _t := tokD; go_at_call 27; refine (HN.out _ (HT.out.upd HU0.out (fun f => f))).mono ?_; rintro e w1 ⟨a1, c1, rfl, g1, g2⟩; have HR1 := Lib.hid (HR0.out.upd g2 (fun f => f)); have HP1 := Lib.hid (HP0.out.upd g2 (fun f => f)); have HU1 := Lib.hid (HU0.out.trans g2 (fun _ f _ => f)); have HO1 := Lib.hid g1; have p0 := HP1.out.cell 0; have p1 := HP1.out.cell 1; have p2 := HP1.out.cell 2; have p3 := HP1.out.cell 3; have p4 := HP1.out.cell 4; clear tokD g1 g2)
      | (go_at_call 33; refine (HM.out _ (HT.out.upd HU1.out (fun f => f))).mono ?_; rintro e w4 ⟨a4, c4, rfl, g1, g2⟩; have HP4 := Lib.hid (HP1.out.upd g2 (fun f => f)); have HU4 := Lib.hid (HU1.out.trans g2 (fun _ f _ => f)); have HV4 := Lib.hid g1; clear g1 g2)
      | (go_at_call 35; refine (net_ReadReply _ c4 HV4.out.row hYl (HT.out.upd HU4.out (fun f => f))).mono ?_; rintro e w5 hg; rw [HYr.out] at hg; unfold GotRep Rep.val at hg; dsimp only at hg; obtain ⟨rfl, g2⟩ := hg; have HP5 := Lib.hid (HP4.out.upd (Upd.alloc g2 (.cells #[.string jd, .int .i64 status, .int .i64 js, .int .i64 why, .string jt] 53)) (fun f => f)); have HY5 := Lib.hid (HV4.out.keep (Upd.alloc g2 (.cells #[.string jd, .int .i64 status, .int .i64 js, .int .i64 why, .string jt] 53))); have HU5 := Lib.hid (HU4.out.trans (Upd.alloc g2 (.cells #[.string jd, .int .i64 status, .int .i64 js, .int .i64 why, .string jt] 53)) (fun _ f _ => f)); have HV5 := Lib.hid (Blk.new w5 53 #[.string jd, .int .i64 status, .int .i64 js, .int .i64 why, .string jt]); clear g2)
      | (have _t := tokC; go_at_call 29; refine (net_ReadAsk _ c4 HY5.out.row hYl (HT.out.upd HU5.out (fun f => f))).mono ?_; rintro e w6 hg; rw [HYa.out] at hg; unfold GotReq Req.val Req.zero at hg; dsimp only at hg; obtain ⟨rfl, g2⟩ := hg; have HP6 := Lib.hid (HP5.out.upd (Upd.alloc g2 (.cells #[.string ⟨#[]⟩, .int .i64 0, .int .i64 0, .string ⟨#[]⟩] 46)) (fun f => f)); have HV6 := Lib.hid (HV5.out.upd (Upd.alloc g2 (.cells #[.string ⟨#[]⟩, .int .i64 0, .int .i64 0, .string ⟨#[]⟩] 46)) (fun f => f)); have HU6 := Lib.hid (HU5.out.trans (Upd.alloc g2 (.cells #[.string ⟨#[]⟩, .int .i64 0, .int .i64 0, .string ⟨#[]⟩] 46)) (fun _ f _ => f)); have m0 := HP6.out.cell 0; have m1 := HP6.out.cell 1; have m2 := HP6.out.cell 2; have m3 := HP6.out.cell 3; have m4 := HP6.out.cell 4; have v0 := HV6.out.cell 0; have v1 := HV6.out.cell 1; have v2 := HV6.out.cell 2; have v3 := HV6.out.cell 3; have v4 := HV6.out.cell 4; clear tokC g2)
      | (go_at_call 29; refine (net_ReadAsk _ c (HR.out.keep HU6.out) hx (HT.out.upd HU6.out (fun f => f))).mono ?_; rintro e w7 hg; rw [HB.out] at hg; unfold GotReq Req.val at hg; dsimp only at hg; obtain ⟨rfl, g2⟩ := hg; have HU7 := Lib.hid (HU6.out.trans (Upd.alloc g2 (.cells #[.string qi, .int .i64 qk, .int .i64 qs, .string qt] 46)) (fun _ f _ => f)); clear g2)
      | (go_at_call 27; refine (HNq.out _ (HT.out.upd HU7.out (fun f => f))).mono ?_; rintro e w8 ⟨a8, c8, rfl, g1, g2⟩; have HU8 := Lib.hid (HU7.out.trans g2 (fun _ f _ => f)); have HO8 := Lib.hid g1; clear g1 g2)
      | (go_at_call 16; refine (bytesEqual_yes _ c8 c HO8.out.row (HR.out.keep HU8.out) rfl).mono ?_; rintro e w' ⟨rfl, rfl⟩))
    go_ret
    exact ⟨rfl, HU8.out⟩
  · have HB := Lib.hid hb
    clear hb
    go_enter Tryd.func8, Tryd.ntmps8
    go_wp2_with (first
      | (have _t := tokD; go_at_call 27; refine (HN.out _ (HT.out.upd HU0.out (fun f => f))).mono ?_; rintro e w1 ⟨a1, c1, rfl, g1, g2⟩; have HR1 := Lib.hid (HR0.out.upd g2 (fun f => f)); have HP1 := Lib.hid (HP0.out.upd g2 (fun f => f)); have HU1 := Lib.hid (HU0.out.trans g2 (fun _ f _ => f)); have HO1 := Lib.hid g1; have p0 := HP1.out.cell 0; have p1 := HP1.out.cell 1; have p2 := HP1.out.cell 2; have p3 := HP1.out.cell 3; have p4 := HP1.out.cell 4; clear tokD g1 g2)
      | (go_at_call 33; refine (HM.out _ (HT.out.upd HU1.out (fun f => f))).mono ?_; rintro e w4 ⟨a4, c4, rfl, g1, g2⟩; have HP4 := Lib.hid (HP1.out.upd g2 (fun f => f)); have HU4 := Lib.hid (HU1.out.trans g2 (fun _ f _ => f)); have HV4 := Lib.hid g1; clear g1 g2)
      | (go_at_call 35; refine (net_ReadReply _ c4 HV4.out.row hYl (HT.out.upd HU4.out (fun f => f))).mono ?_; rintro e w5 hg; rw [HYr.out] at hg; unfold GotRep Rep.val at hg; dsimp only at hg; obtain ⟨rfl, g2⟩ := hg; have HP5 := Lib.hid (HP4.out.upd (Upd.alloc g2 (.cells #[.string jd, .int .i64 status, .int .i64 js, .int .i64 why, .string jt] 53)) (fun f => f)); have HY5 := Lib.hid (HV4.out.keep (Upd.alloc g2 (.cells #[.string jd, .int .i64 status, .int .i64 js, .int .i64 why, .string jt] 53))); have HU5 := Lib.hid (HU4.out.trans (Upd.alloc g2 (.cells #[.string jd, .int .i64 status, .int .i64 js, .int .i64 why, .string jt] 53)) (fun _ f _ => f)); have HV5 := Lib.hid (Blk.new w5 53 #[.string jd, .int .i64 status, .int .i64 js, .int .i64 why, .string jt]); clear g2)
      | (have _t := tokC; go_at_call 29; refine (net_ReadAsk _ c4 HY5.out.row hYl (HT.out.upd HU5.out (fun f => f))).mono ?_; rintro e w6 hg; rw [HYa.out] at hg; unfold GotReq Req.val Req.zero at hg; dsimp only at hg; obtain ⟨rfl, g2⟩ := hg; have HP6 := Lib.hid (HP5.out.upd (Upd.alloc g2 (.cells #[.string ⟨#[]⟩, .int .i64 0, .int .i64 0, .string ⟨#[]⟩] 46)) (fun f => f)); have HV6 := Lib.hid (HV5.out.upd (Upd.alloc g2 (.cells #[.string ⟨#[]⟩, .int .i64 0, .int .i64 0, .string ⟨#[]⟩] 46)) (fun f => f)); have HU6 := Lib.hid (HU5.out.trans (Upd.alloc g2 (.cells #[.string ⟨#[]⟩, .int .i64 0, .int .i64 0, .string ⟨#[]⟩] 46)) (fun _ f _ => f)); have m0 := HP6.out.cell 0; have m1 := HP6.out.cell 1; have m2 := HP6.out.cell 2; have m3 := HP6.out.cell 3; have m4 := HP6.out.cell 4; have v0 := HV6.out.cell 0; have v1 := HV6.out.cell 1; have v2 := HV6.out.cell 2; have v3 := HV6.out.cell 3; have v4 := HV6.out.cell 4; clear tokC g2)
      | (go_at_call 29; refine (net_ReadAsk _ c (HR.out.keep HU6.out) hx (HT.out.upd HU6.out (fun f => f))).mono ?_; rintro e w7 hg; rw [HB.out] at hg; unfold GotReq Req.val Req.zero at hg; dsimp only at hg; obtain ⟨rfl, g2⟩ := hg; have HU7 := Lib.hid (HU6.out.trans (Upd.alloc g2 (.cells #[.string ⟨#[]⟩, .int .i64 0, .int .i64 0, .string ⟨#[]⟩] 46)) (fun _ f _ => f)); clear g2))
    go_ret
    exact ⟨rfl, HU7.out⟩

set_option maxRecDepth 100000 in
set_option maxHeartbeats 8000000 in
theorem walk_nn {F : Nat → Prop} (w : World) (r : Req) (h1 : r.id.size ≤ 140737488355328) (h2 : r.text.size ≤ 140737488355328) (p : Rep) (h3 : p.id.size ≤ 140737488355328) (h4 : p.text.size ≤ 140737488355328) {a : Option Addr} (c : Nat) {b : List UInt8} (hr : Row F w a (bvs b)) (hx : b.length ≤ 140737488355328) (tab : Tab w) (hmr : mayL r = false) (hmp : mayRepL p = false) :
    Calls Tryd.prog 8 #[r.val, p.val, .slice a b.length c] w fun e w' => e = .returned (.bool true) ∧ Upd Nil w w' := by
  have HR := Lib.hid hr
  have HT := Lib.hid tab
  have HN := Lib.hid (fun (w : World) (tab : Tab w) => net_Ask w r h1 h2 tab)
  have HM := Lib.hid (fun (w : World) (tab : Tab w) => net_Reply w p h3 h4 tab)
  have tokD : True := trivial
  rw [ask_no hmr] at HN
  obtain ⟨X, hX⟩ : ∃ X, askB r = X := ⟨_, rfl⟩
  rw [hX] at HN
  rw [reply_no hmp] at HM
  obtain ⟨Y, hY⟩ : ∃ Y, replyB p = Y := ⟨_, rfl⟩
  rw [hY] at HM
  obtain ⟨id, kind, session, text⟩ := r
  obtain ⟨jd, status, js, why, jt⟩ := p
  unfold Req.val at HN ⊢
  unfold Rep.val at HM ⊢
  dsimp only at h1 h2 h3 h4 HN HM ⊢
  have HU0 := Lib.hid (show Upd Nil w ((w.alloc (.cells #[.string id, .int .i64 kind, .int .i64 session, .string text] 46)).alloc (.cells #[.string jd, .int .i64 status, .int .i64 js, .int .i64 why, .string jt] 53)) from ((Upd.refl Nil w).alloc _).alloc _)
  have HR0 := Lib.hid (show Blk ((w.alloc (.cells #[.string id, .int .i64 kind, .int .i64 session, .string text] 46)).alloc (.cells #[.string jd, .int .i64 status, .int .i64 js, .int .i64 why, .string jt] 53)) w.heap.size 46 #[.string id, .int .i64 kind, .int .i64 session, .string text] from (Blk.new w _ _).alloc _)
  have HP0 := Lib.hid (show Blk ((w.alloc (.cells #[.string id, .int .i64 kind, .int .i64 session, .string text] 46)).alloc (.cells #[.string jd, .int .i64 status, .int .i64 js, .int .i64 why, .string jt] 53)) (w.heap.size + 1) 53 #[.string jd, .int .i64 status, .int .i64 js, .int .i64 why, .string jt] by
    have := Blk.new (w.alloc (.cells #[.string id, .int .i64 kind, .int .i64 session, .string text] 46)) 53 #[.string jd, .int .i64 status, .int .i64 js, .int .i64 why, .string jt]
    simp only [World.size_alloc] at this
    exact this)
  clear hr tab hX hY hmr hmp
  rcases readAsk_inv b with ⟨q, hb, hmq, hbq⟩ | hb
  · obtain ⟨z1, z2⟩ := ask_yes hmq
    obtain ⟨f1, f2, _⟩ := mayL_facts hmq
    have HNq := Lib.hid (fun (w : World) (tab : Tab w) => net_Ask w q (by omega) (by omega) tab)
    rw [z1, z2, ← hbq] at HNq
    obtain ⟨qi, qk, qs, qt⟩ := q
    unfold Req.val at HNq
    dsimp only at HNq
    have HB := Lib.hid hb
    clear hb hmq hbq z1 z2 f1 f2
    go_enter Tryd.func8, Tryd.ntmps8
    go_wp2_with (first
      | (have _t := tokD; go_at_call 27; refine (HN.out _ (HT.out.upd HU0.out (fun f => f))).mono ?_; rintro e w1 ⟨a1, c1, rfl, g1, g2⟩; have HR1 := Lib.hid (HR0.out.upd g2 (fun f => f)); have HP1 := Lib.hid (HP0.out.upd g2 (fun f => f)); have HU1 := Lib.hid (HU0.out.trans g2 (fun _ f _ => f)); have HO1 := Lib.hid g1; have p0 := HP1.out.cell 0; have p1 := HP1.out.cell 1; have p2 := HP1.out.cell 2; have p3 := HP1.out.cell 3; have p4 := HP1.out.cell 4; clear tokD g1 g2)
      | (go_at_call 33; refine (HM.out _ (HT.out.upd HU1.out (fun f => f))).mono ?_; rintro e w4 ⟨a4, c4, rfl, g1, g2⟩; have HP4 := Lib.hid (HP1.out.upd g2 (fun f => f)); have HU4 := Lib.hid (HU1.out.trans g2 (fun _ f _ => f)); have HV4 := Lib.hid g1; clear g1 g2)
      | (go_at_call 29; refine (net_ReadAsk _ c (HR.out.keep HU4.out) hx (HT.out.upd HU4.out (fun f => f))).mono ?_; rintro e w7 hg; rw [HB.out] at hg; unfold GotReq Req.val at hg; dsimp only at hg; obtain ⟨rfl, g2⟩ := hg; have HU7 := Lib.hid (HU4.out.trans (Upd.alloc g2 (.cells #[.string qi, .int .i64 qk, .int .i64 qs, .string qt] 46)) (fun _ f _ => f)); clear g2)
      | (go_at_call 27; refine (HNq.out _ (HT.out.upd HU7.out (fun f => f))).mono ?_; rintro e w8 ⟨a8, c8, rfl, g1, g2⟩; have HU8 := Lib.hid (HU7.out.trans g2 (fun _ f _ => f)); have HO8 := Lib.hid g1; clear g1 g2)
      | (go_at_call 16; refine (bytesEqual_yes _ c8 c HO8.out.row (HR.out.keep HU8.out) rfl).mono ?_; rintro e w' ⟨rfl, rfl⟩))
    go_ret
    exact ⟨rfl, HU8.out⟩
  · have HB := Lib.hid hb
    clear hb
    go_enter Tryd.func8, Tryd.ntmps8
    go_wp2_with (first
      | (have _t := tokD; go_at_call 27; refine (HN.out _ (HT.out.upd HU0.out (fun f => f))).mono ?_; rintro e w1 ⟨a1, c1, rfl, g1, g2⟩; have HR1 := Lib.hid (HR0.out.upd g2 (fun f => f)); have HP1 := Lib.hid (HP0.out.upd g2 (fun f => f)); have HU1 := Lib.hid (HU0.out.trans g2 (fun _ f _ => f)); have HO1 := Lib.hid g1; have p0 := HP1.out.cell 0; have p1 := HP1.out.cell 1; have p2 := HP1.out.cell 2; have p3 := HP1.out.cell 3; have p4 := HP1.out.cell 4; clear tokD g1 g2)
      | (go_at_call 33; refine (HM.out _ (HT.out.upd HU1.out (fun f => f))).mono ?_; rintro e w4 ⟨a4, c4, rfl, g1, g2⟩; have HP4 := Lib.hid (HP1.out.upd g2 (fun f => f)); have HU4 := Lib.hid (HU1.out.trans g2 (fun _ f _ => f)); have HV4 := Lib.hid g1; clear g1 g2)
      | (go_at_call 29; refine (net_ReadAsk _ c (HR.out.keep HU4.out) hx (HT.out.upd HU4.out (fun f => f))).mono ?_; rintro e w7 hg; rw [HB.out] at hg; unfold GotReq Req.val Req.zero at hg; dsimp only at hg; obtain ⟨rfl, g2⟩ := hg; have HU7 := Lib.hid (HU4.out.trans (Upd.alloc g2 (.cells #[.string ⟨#[]⟩, .int .i64 0, .int .i64 0, .string ⟨#[]⟩] 46)) (fun _ f _ => f)); clear g2))
    go_ret
    exact ⟨rfl, HU7.out⟩

theorem walk {F : Nat → Prop} (w : World) (r : Req) (h1 : r.id.size ≤ 140737488355328) (h2 : r.text.size ≤ 140737488355328) (p : Rep) (h3 : p.id.size ≤ 140737488355328) (h4 : p.text.size ≤ 140737488355328) {a : Option Addr} (c : Nat) {b : List UInt8} (hr : Row F w a (bvs b)) (_ : a = none → c = 0) (_ : b.length ≤ c) (_ : c ≤ maxLen) (hx : b.length ≤ 140737488355328) (tab : Tab w) :
    Calls Tryd.prog 8 #[r.val, p.val, .slice a b.length c] w fun e w' => e = .returned (.bool true) ∧ Upd Nil w w' := by
  cases hmr : mayL r <;> cases hmp : mayRepL p
  · exact walk_nn w r h1 h2 p h3 h4 c hr hx tab hmr hmp
  · exact walk_ny w r h1 h2 p h3 h4 c hr hx tab hmr hmp
  · exact walk_yn w r h1 h2 p h3 h4 c hr hx tab hmr hmp
  · exact walk_yy w r h1 h2 p h3 h4 c hr hx tab hmr hmp
end Go.Proofs.YtbaombnnagidcaaDoor.netBack
