/- ReadAsk, ReadReply of the program. -/
import Derived.Test.YtbaombnnagidcaaDoorZL10
import Derived.Laws.ResultCell

namespace Go.Proofs.YtbaombnnagidcaaDoor
open Go.RowKit

theorem length_parseL (b : List UInt8) (k m : Nat) : (parseL b k m).1.length = m := by
  unfold parseL
  split
  · simp
  · exact length_numsS _ _ _ m
theorem textR_le (m : Nat) (l : List UInt8) : (textR m l).1.length ≤ m := by
  unfold textR
  split
  · simp
  · split
    · simp
    · split
      · simp
      · rw [List.length_take]
        omega
theorem size_str (xs : List UInt8) : (str xs).size = xs.length := by simp [str, ByteArray.size]
theorem parseL_small (b : List UInt8) (k m : Nat) : (parseL b k m).2.1.size ≤ 65536 ∧ (parseL b k m).2.2.1.size ≤ 65536 := by
  unfold parseL
  split
  · exact ⟨Nat.zero_le _, Nat.zero_le _⟩
  · have h := unframe_small b
    unfold parseEndL
    dsimp only
    rw [size_str, size_str]
    exact ⟨Nat.le_trans (textR_le _ _) h, Nat.le_trans (textR_le _ _) h⟩

def Req.zero : Req := ⟨⟨#[]⟩, 0, 0, ⟨#[]⟩⟩
def Rep.zero : Rep := ⟨⟨#[]⟩, 0, 0, 0, ⟨#[]⟩⟩
def reqOf (q : List Int × ByteArray × ByteArray × Bool) : Req := ⟨q.2.1, q.1.getD 0 0, q.1.getD 1 0, q.2.2.1⟩
def repOf (q : List Int × ByteArray × ByteArray × Bool) : Rep := ⟨q.2.1, q.1.getD 0 0, q.1.getD 1 0, q.1.getD 2 0, q.2.2.1⟩
def reqEnd (b : List UInt8) (r : Req) (ok : Bool) : Req × Int := if ok = true ∧ askZ r = 0 ∧ b = askB r then (r, 0) else (Req.zero, 5)
def repEnd (b : List UInt8) (r : Rep) (ok : Bool) : Rep × Int := if ok = true ∧ replyZ r = 0 ∧ b = replyB r then (r, 0) else (Rep.zero, 5)
/-- the request, the reply of a message, as the program reads it -/
def readAskL (b : List UInt8) : Req × Int := reqEnd b (reqOf (parseL b 1 2)) (parseL b 1 2).2.2.2
def readReplyL (b : List UInt8) : Rep × Int := repEnd b (repOf (parseL b 2 3)) (parseL b 2 3).2.2.2

theorem net_same {F G : Nat → Prop} (w : World) {a b : Option Addr} (c d : Nat) {xs ys : List UInt8} (hx : Row F w a (bvs xs)) (hy : Row G w b (bvs ys)) (z : Int) {r : Bool} (hr : decide (z = 0 ∧ xs = ys) = r) :
    Calls Tryd.prog 65 #[.slice a xs.length c, .slice b ys.length d, .int .i64 z] w fun e w' => e = .returned (.bool r) ∧ w = w' := by
  have H := Lib.hid (bytesEqual w c d hx hy)
  clear hx hy
  by_cases hz : z = 0
  · subst hz
    have hr' : decide (xs = ys) = r := by rw [← hr]; simp
    rw [hr'] at H
    clear hr'
    go_enter Tryd.func65, Tryd.ntmps65
    go_wp2_with (go_at_call 16; refine H.out.mono ?_; rintro e w' ⟨rfl, rfl⟩)
    go_ret
    exact ⟨rfl, rfl⟩
  · have hz1 : (z == 0) = false := by rw [beq_eq_false_iff_ne]; exact hz
    have hr' : r = false := by rw [← hr]; exact decide_eq_false (fun h => hz h.1)
    subst hr'
    clear hr
    go_enter Tryd.func65, Tryd.ntmps65
    go_wp2
    go_ret
    exact ⟨rfl, rfl⟩

theorem infoReq : (Tryd.prog.info? 46).map (·.size) = some 4 := by kernel_rfl
theorem infoRep : (Tryd.prog.info? 53).map (·.size) = some 5 := by kernel_rfl
/-- two results: a struct that lies in a box, and a slot -/
theorem results_box {P : Program} {fn : Func} {p u : Tmp} {ty : TypeId} (h : fn.results = #[.cell p ty, .tmp u]) {tmps : Array Value} {w : World} {g : Nat} {t : TypeId} {cs : Array Value} {d : TypeDesc} {n : Nat}
    (hp : tmps.getD p undef = .pointer (some ⟨g, 0, none⟩)) (hb : Blk w g t cs) (hu : P.underlying ty = some d) (hd : (match d with | .struct _ | .array _ _ => true | _ => false) = true) (hi : (P.info? ty).map (·.size) = some n) (hn : cs.size = n) :
    (results fn tmps).run P w = .ok (.tuple #[.agg cs, tmps.getD u undef]) w := by
  subst hn
  rw [results_cell_tmp h, hp]
  simp [asAddr, run_loadVar_row (P := P) w g t ty cs (0, 0) d hb hu hd hi]

/-- a request and a code -/
def GotReq (w : World) (t : Req × Int) (e : Ending) (w' : World) : Prop := e = .returned (.tuple #[t.1.val, .int .i64 t.2]) ∧ Upd Nil w w'
def GotRep (w : World) (t : Rep × Int) (e : Ending) (w' : World) : Prop := e = .returned (.tuple #[t.1.val, .int .i64 t.2]) ∧ Upd Nil w w'

set_option maxRecDepth 100000 in
set_option maxHeartbeats 2000000 in
theorem net_ReadAsk {F : Nat → Prop} (w : World) {a : Option Addr} (c : Nat) {b : List UInt8} (hr : Row F w a (bvs b)) (hx : b.length ≤ 140737488355328) (tab : Tab w) :
    Calls Tryd.prog 29 #[.slice a b.length c] w (GotReq w (readAskL b)) := by
  have HR := Lib.hid hr
  have HT := Lib.hid tab
  unfold readAskL
  have hl := length_parseL b 1 2
  obtain ⟨hs1, hs2⟩ := parseL_small b 1 2
  obtain ⟨⟨vs, id, text, ok⟩, hq⟩ : ∃ q, parseL b 1 2 = q := ⟨_, rfl⟩
  rw [hq] at hl hs1 hs2 ⊢
  have HQ := Lib.hid hq
  clear hq hr tab
  dsimp only at hl hs1 hs2
  obtain ⟨x, y, rfl⟩ : ∃ x y, vs = [x, y] := by
    match vs, hl with
    | [x, y], _ => exact ⟨x, y, rfl⟩
  show Calls _ _ _ w (GotReq w (reqEnd b ⟨id, x, y, text⟩ ok))
  clear hl
  obtain ⟨z, hz⟩ : ∃ z, askZ ⟨id, x, y, text⟩ = z := ⟨_, rfl⟩
  obtain ⟨ys, hys⟩ : ∃ ys, askB ⟨id, x, y, text⟩ = ys := ⟨_, rfl⟩
  obtain ⟨R, hR⟩ : ∃ R, decide (z = 0 ∧ b = ys) = R := ⟨_, rfl⟩
  have hE : reqEnd b ⟨id, x, y, text⟩ ok = if (ok && R) = true then (⟨id, x, y, text⟩, 0) else (Req.zero, 5) := by
    unfold reqEnd
    rw [hz, hys]
    simp only [Bool.and_eq_true, ← hR, decide_eq_true_eq]
  rw [hE]
  have HZ := Lib.hid hz
  have HY := Lib.hid hys
  have HRv := Lib.hid hR
  clear hE hz hys hR
  have hAl : Upd Nil w (((w.alloc (.cells #[.string ⟨#[]⟩, .int .i64 0, .int .i64 0, .string ⟨#[]⟩] 46)).alloc (.cells #[.string ⟨#[]⟩, .int .i64 0, .int .i64 0, .string ⟨#[]⟩] 46)).alloc (.cells #[.pointer (some ⟨w.heap.size + 1, 1, none⟩), .pointer (some ⟨w.heap.size + 1, 2, none⟩)] 109)) := (((Upd.refl Nil w).alloc _).alloc _).alloc _
  have hPt : Row (One (w.heap.size + 2)) (((w.alloc (.cells #[.string ⟨#[]⟩, .int .i64 0, .int .i64 0, .string ⟨#[]⟩] 46)).alloc (.cells #[.string ⟨#[]⟩, .int .i64 0, .int .i64 0, .string ⟨#[]⟩] 46)).alloc (.cells #[.pointer (some ⟨w.heap.size + 1, 1, none⟩), .pointer (some ⟨w.heap.size + 1, 2, none⟩)] 109)) (some ⟨w.heap.size + 2, 0, none⟩) (ptrs (w.heap.size + 1) 2) := by
    have := (Own.lit (t := 109) (sz := 1) ((w.alloc (.cells #[.string ⟨#[]⟩, .int .i64 0, .int .i64 0, .string ⟨#[]⟩] 46)).alloc (.cells #[.string ⟨#[]⟩, .int .i64 0, .int .i64 0, .string ⟨#[]⟩] 46)) #[.pointer (some ⟨w.heap.size + 1, 1, none⟩), .pointer (some ⟨w.heap.size + 1, 2, none⟩)] 2 (by decide) rfl).row
    simp only [World.size_alloc] at this
    exact this
  have hBk : Blk (((w.alloc (.cells #[.string ⟨#[]⟩, .int .i64 0, .int .i64 0, .string ⟨#[]⟩] 46)).alloc (.cells #[.string ⟨#[]⟩, .int .i64 0, .int .i64 0, .string ⟨#[]⟩] 46)).alloc (.cells #[.pointer (some ⟨w.heap.size + 1, 1, none⟩), .pointer (some ⟨w.heap.size + 1, 2, none⟩)] 109)) (w.heap.size + 1) 46 (blkL (List.replicate 2 0)) := by
    have := (Blk.new (w.alloc (.cells #[.string ⟨#[]⟩, .int .i64 0, .int .i64 0, .string ⟨#[]⟩] 46)) 46 #[.string ⟨#[]⟩, .int .i64 0, .int .i64 0, .string ⟨#[]⟩]).alloc (.cells #[.pointer (some ⟨w.heap.size + 1, 1, none⟩), .pointer (some ⟨w.heap.size + 1, 2, none⟩)] 109)
    simp only [World.size_alloc] at this
    exact this
  have hBr : Blk (((w.alloc (.cells #[.string ⟨#[]⟩, .int .i64 0, .int .i64 0, .string ⟨#[]⟩] 46)).alloc (.cells #[.string ⟨#[]⟩, .int .i64 0, .int .i64 0, .string ⟨#[]⟩] 46)).alloc (.cells #[.pointer (some ⟨w.heap.size + 1, 1, none⟩), .pointer (some ⟨w.heap.size + 1, 2, none⟩)] 109)) w.heap.size 46 #[.string ⟨#[]⟩, .int .i64 0, .int .i64 0, .string ⟨#[]⟩] :=
    ((Blk.new w 46 #[.string ⟨#[]⟩, .int .i64 0, .int .i64 0, .string ⟨#[]⟩]).alloc _).alloc _
  have HAl := Lib.hid hAl
  have HPt := Lib.hid hPt
  have HBk := Lib.hid hBk
  have HBr := Lib.hid hBr
  clear hAl hPt hBk hBr
  go_enter Tryd.func29, Tryd.ntmps29
  have hcs : ok = false ∨ (ok = true ∧ R = false) ∨ (ok = true ∧ R = true) := by
    cases ok <;> cases R <;> simp
  rcases hcs with rfl | ⟨rfl, rfl⟩ | ⟨rfl, rfl⟩
  · go_wp2_with (first
    | (go_at_call 64; refine (net_parse _ c (HR.out.keep HAl.out) hx 1 2 HPt.out (by decide) HBk.out (by simp [One]) (HT.out.upd HAl.out (fun f => f))).mono ?_; rintro e w1 hg; rw [HQ.out] at hg; obtain ⟨rfl, g1, g2⟩ := hg
       have HU1 := Lib.hid (HAl.out.past g2 (fun k hk => by have : k = w.heap.size + 1 := hk; omega))
       have HR1 := Lib.hid (HBr.out.upd g2 (fun h => by have : w.heap.size = w.heap.size + 1 := h; omega))
       have e1 : Blk (w1.setCell ⟨w.heap.size + 1, 0, none⟩ (.string id)) (w.heap.size + 1) 46 #[.string id, .int .i64 x, .int .i64 y, .string ⟨#[]⟩] := g1.set 0 (.string id)
       have e2 : Blk ((w1.setCell ⟨w.heap.size + 1, 0, none⟩ (.string id)).setCell ⟨w.heap.size + 1, 3, none⟩ (.string text)) (w.heap.size + 1) 46 #[.string id, .int .i64 x, .int .i64 y, .string text] := e1.set 3 (.string text)
       have a0 := g1.cell 0; have af := g1.frozen 0; have b3 := e1.cell 3; have bf := e1.frozen 3; have d0 := e2.cell 0; have d1 := e2.cell 1; have d2 := e2.cell 2; have d3 := e2.cell 3
       have HE2 := Lib.hid e2
       clear g1 g2 e1 e2)
    | (go_at_call 27; refine (net_Ask _ ⟨id, x, y, text⟩ (by show id.size ≤ _; omega) (by show text.size ≤ _; omega) ((HT.out.upd HU1.out (fun f => f)).upd (((Upd.refl (One (w.heap.size + 1)) w1).setCell (p := ⟨w.heap.size + 1, 0, none⟩) (.inl rfl) _).setCell (p := ⟨w.heap.size + 1, 3, none⟩) (.inl rfl) _) (fun h => by have : 0 = w.heap.size + 1 := h; omega))).mono ?_; rintro e w2 hg; rw [HZ.out, HY.out] at hg; obtain ⟨a2, c2, rfl, g1, g2⟩ := hg
       have hu := ((Upd.refl (One (w.heap.size + 1)) w1).setCell (p := ⟨w.heap.size + 1, 0, none⟩) (.inl rfl) (.string id)).setCell (p := ⟨w.heap.size + 1, 3, none⟩) (.inl rfl) (.string text)
       have HU2 := Lib.hid ((HU1.out.past hu (fun k hk => by have : k = w.heap.size + 1 := hk; omega)).trans g2 (fun _ f _ => f))
       have r2 := (HR1.out.upd hu (fun h => by have : w.heap.size = w.heap.size + 1 := h; omega)).upd g2 (fun f => f)
       have e3 := HE2.out.upd g2 (fun f => f)
       have HO2 := Lib.hid g1; have HR2 := Lib.hid r2; have HE3 := Lib.hid e3
       have q0 := r2.cell 0; have q1 := r2.cell 1; have q2 := r2.cell 2; have q3 := r2.cell 3
       have f0 := r2.frozen 0; have f1 := r2.frozen 1; have f2 := r2.frozen 2; have f3 := r2.frozen 3
       have s0 := e3.cell 0; have s1 := e3.cell 1; have s2 := e3.cell 2; have s3 := e3.cell 3
       clear g1 g2 hu r2 e3 a0 af b3 bf d0 d1 d2 d3)
    | (go_at_call 65; refine (net_same _ c c2 (HR.out.keep HU2.out) HO2.out.row z HRv.out).mono ?_; rintro e w' ⟨rfl, rfl⟩))
    (try simp only [Exit.inBlock, Exit.then])
    have hz := (((HR2.out.set 0 (.string ⟨#[]⟩)).set 1 (.int .i64 0)).set 2 (.int .i64 0)).set 3 (.string ⟨#[]⟩)
    refine bodyPost_ret (results_box rfl rfl hz Tryd.underlying46 rfl infoReq rfl) rfl ⟨rfl, ?_⟩
    exact HU2.out.past (((((Upd.refl (One w.heap.size) w2).setCell (p := ⟨w.heap.size, 0, none⟩) (.inl rfl) _).setCell (p := ⟨w.heap.size, 1, none⟩) (.inl rfl) _).setCell (p := ⟨w.heap.size, 2, none⟩) (.inl rfl) _).setCell (p := ⟨w.heap.size, 3, none⟩) (.inl rfl) _) (fun k hk => by have : k = w.heap.size := hk; omega)
  · go_wp2_with (first
    | (go_at_call 64; refine (net_parse _ c (HR.out.keep HAl.out) hx 1 2 HPt.out (by decide) HBk.out (by simp [One]) (HT.out.upd HAl.out (fun f => f))).mono ?_; rintro e w1 hg; rw [HQ.out] at hg; obtain ⟨rfl, g1, g2⟩ := hg
       have HU1 := Lib.hid (HAl.out.past g2 (fun k hk => by have : k = w.heap.size + 1 := hk; omega))
       have HR1 := Lib.hid (HBr.out.upd g2 (fun h => by have : w.heap.size = w.heap.size + 1 := h; omega))
       have e1 : Blk (w1.setCell ⟨w.heap.size + 1, 0, none⟩ (.string id)) (w.heap.size + 1) 46 #[.string id, .int .i64 x, .int .i64 y, .string ⟨#[]⟩] := g1.set 0 (.string id)
       have e2 : Blk ((w1.setCell ⟨w.heap.size + 1, 0, none⟩ (.string id)).setCell ⟨w.heap.size + 1, 3, none⟩ (.string text)) (w.heap.size + 1) 46 #[.string id, .int .i64 x, .int .i64 y, .string text] := e1.set 3 (.string text)
       have a0 := g1.cell 0; have af := g1.frozen 0; have b3 := e1.cell 3; have bf := e1.frozen 3; have d0 := e2.cell 0; have d1 := e2.cell 1; have d2 := e2.cell 2; have d3 := e2.cell 3
       have HE2 := Lib.hid e2
       clear g1 g2 e1 e2)
    | (go_at_call 27; refine (net_Ask _ ⟨id, x, y, text⟩ (by show id.size ≤ _; omega) (by show text.size ≤ _; omega) ((HT.out.upd HU1.out (fun f => f)).upd (((Upd.refl (One (w.heap.size + 1)) w1).setCell (p := ⟨w.heap.size + 1, 0, none⟩) (.inl rfl) _).setCell (p := ⟨w.heap.size + 1, 3, none⟩) (.inl rfl) _) (fun h => by have : 0 = w.heap.size + 1 := h; omega))).mono ?_; rintro e w2 hg; rw [HZ.out, HY.out] at hg; obtain ⟨a2, c2, rfl, g1, g2⟩ := hg
       have hu := ((Upd.refl (One (w.heap.size + 1)) w1).setCell (p := ⟨w.heap.size + 1, 0, none⟩) (.inl rfl) (.string id)).setCell (p := ⟨w.heap.size + 1, 3, none⟩) (.inl rfl) (.string text)
       have HU2 := Lib.hid ((HU1.out.past hu (fun k hk => by have : k = w.heap.size + 1 := hk; omega)).trans g2 (fun _ f _ => f))
       have r2 := (HR1.out.upd hu (fun h => by have : w.heap.size = w.heap.size + 1 := h; omega)).upd g2 (fun f => f)
       have e3 := HE2.out.upd g2 (fun f => f)
       have HO2 := Lib.hid g1; have HR2 := Lib.hid r2; have HE3 := Lib.hid e3
       have q0 := r2.cell 0; have q1 := r2.cell 1; have q2 := r2.cell 2; have q3 := r2.cell 3
       have f0 := r2.frozen 0; have f1 := r2.frozen 1; have f2 := r2.frozen 2; have f3 := r2.frozen 3
       have s0 := e3.cell 0; have s1 := e3.cell 1; have s2 := e3.cell 2; have s3 := e3.cell 3
       clear g1 g2 hu r2 e3 a0 af b3 bf d0 d1 d2 d3)
    | (go_at_call 65; refine (net_same _ c c2 (HR.out.keep HU2.out) HO2.out.row z HRv.out).mono ?_; rintro e w' ⟨rfl, rfl⟩))
    (try simp only [Exit.inBlock, Exit.then])
    have hz := (((HR2.out.set 0 (.string ⟨#[]⟩)).set 1 (.int .i64 0)).set 2 (.int .i64 0)).set 3 (.string ⟨#[]⟩)
    refine bodyPost_ret (results_box rfl rfl hz Tryd.underlying46 rfl infoReq rfl) rfl ⟨rfl, ?_⟩
    exact HU2.out.past (((((Upd.refl (One w.heap.size) w2).setCell (p := ⟨w.heap.size, 0, none⟩) (.inl rfl) _).setCell (p := ⟨w.heap.size, 1, none⟩) (.inl rfl) _).setCell (p := ⟨w.heap.size, 2, none⟩) (.inl rfl) _).setCell (p := ⟨w.heap.size, 3, none⟩) (.inl rfl) _) (fun k hk => by have : k = w.heap.size := hk; omega)
  · go_wp2_with (first
    | (go_at_call 64; refine (net_parse _ c (HR.out.keep HAl.out) hx 1 2 HPt.out (by decide) HBk.out (by simp [One]) (HT.out.upd HAl.out (fun f => f))).mono ?_; rintro e w1 hg; rw [HQ.out] at hg; obtain ⟨rfl, g1, g2⟩ := hg
       have HU1 := Lib.hid (HAl.out.past g2 (fun k hk => by have : k = w.heap.size + 1 := hk; omega))
       have HR1 := Lib.hid (HBr.out.upd g2 (fun h => by have : w.heap.size = w.heap.size + 1 := h; omega))
       have e1 : Blk (w1.setCell ⟨w.heap.size + 1, 0, none⟩ (.string id)) (w.heap.size + 1) 46 #[.string id, .int .i64 x, .int .i64 y, .string ⟨#[]⟩] := g1.set 0 (.string id)
       have e2 : Blk ((w1.setCell ⟨w.heap.size + 1, 0, none⟩ (.string id)).setCell ⟨w.heap.size + 1, 3, none⟩ (.string text)) (w.heap.size + 1) 46 #[.string id, .int .i64 x, .int .i64 y, .string text] := e1.set 3 (.string text)
       have a0 := g1.cell 0; have af := g1.frozen 0; have b3 := e1.cell 3; have bf := e1.frozen 3; have d0 := e2.cell 0; have d1 := e2.cell 1; have d2 := e2.cell 2; have d3 := e2.cell 3
       have HE2 := Lib.hid e2
       clear g1 g2 e1 e2)
    | (go_at_call 27; refine (net_Ask _ ⟨id, x, y, text⟩ (by show id.size ≤ _; omega) (by show text.size ≤ _; omega) ((HT.out.upd HU1.out (fun f => f)).upd (((Upd.refl (One (w.heap.size + 1)) w1).setCell (p := ⟨w.heap.size + 1, 0, none⟩) (.inl rfl) _).setCell (p := ⟨w.heap.size + 1, 3, none⟩) (.inl rfl) _) (fun h => by have : 0 = w.heap.size + 1 := h; omega))).mono ?_; rintro e w2 hg; rw [HZ.out, HY.out] at hg; obtain ⟨a2, c2, rfl, g1, g2⟩ := hg
       have hu := ((Upd.refl (One (w.heap.size + 1)) w1).setCell (p := ⟨w.heap.size + 1, 0, none⟩) (.inl rfl) (.string id)).setCell (p := ⟨w.heap.size + 1, 3, none⟩) (.inl rfl) (.string text)
       have HU2 := Lib.hid ((HU1.out.past hu (fun k hk => by have : k = w.heap.size + 1 := hk; omega)).trans g2 (fun _ f _ => f))
       have r2 := (HR1.out.upd hu (fun h => by have : w.heap.size = w.heap.size + 1 := h; omega)).upd g2 (fun f => f)
       have e3 := HE2.out.upd g2 (fun f => f)
       have HO2 := Lib.hid g1; have HR2 := Lib.hid r2; have HE3 := Lib.hid e3
       have q0 := r2.cell 0; have q1 := r2.cell 1; have q2 := r2.cell 2; have q3 := r2.cell 3
       have f0 := r2.frozen 0; have f1 := r2.frozen 1; have f2 := r2.frozen 2; have f3 := r2.frozen 3
       have s0 := e3.cell 0; have s1 := e3.cell 1; have s2 := e3.cell 2; have s3 := e3.cell 3
       clear g1 g2 hu r2 e3 a0 af b3 bf d0 d1 d2 d3)
    | (go_at_call 65; refine (net_same _ c c2 (HR.out.keep HU2.out) HO2.out.row z HRv.out).mono ?_; rintro e w' ⟨rfl, rfl⟩))
    (try simp only [Exit.inBlock, Exit.then])
    have hv := (((HR2.out.set 0 (.string id)).set 1 (.int .i64 x)).set 2 (.int .i64 y)).set 3 (.string text)
    refine bodyPost_ret (results_box rfl rfl hv Tryd.underlying46 rfl infoReq rfl) rfl ⟨rfl, ?_⟩
    exact HU2.out.past (((((Upd.refl (One w.heap.size) w2).setCell (p := ⟨w.heap.size, 0, none⟩) (.inl rfl) _).setCell (p := ⟨w.heap.size, 1, none⟩) (.inl rfl) _).setCell (p := ⟨w.heap.size, 2, none⟩) (.inl rfl) _).setCell (p := ⟨w.heap.size, 3, none⟩) (.inl rfl) _) (fun k hk => by have : k = w.heap.size := hk; omega)
end Go.Proofs.YtbaombnnagidcaaDoor
