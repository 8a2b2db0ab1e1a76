/- Messages: message and Ask, Reply of the program. -/
import Derived.Test.YtbaombnnagidcaaDoorZL04

namespace Go.Proofs.YtbaombnnagidcaaDoor
open Go.RowKit

def nvs (ks : List Int) : List Value := ks.map (fun k => .int .i64 k)
theorem nvs_get {ks : List Int} {i : Nat} (h : i < ks.length) : (nvs ks)[i]? = some (.int .i64 ks[i]) := by simp [nvs, h]
def numL (ks : List Int) : List UInt8 := ks.flatMap putZ
theorem numL_take_succ {ks : List Int} {j : Nat} (h : j < ks.length) : numL (ks.take (j + 1)) = numL (ks.take j) ++ putZ ks[j] := by
  rw [numL, List.take_succ_eq_append_getElem h, List.flatMap_append]
  simp [numL]
/-- the bytes of a message ahead of its frame -/
def bodyL (k : UInt8) (ks : List Int) (id text : ByteArray) : List UInt8 := [k] ++ numL ks ++ textL id ++ textL text
theorem length_numL : ∀ {ks : List Int}, (∀ k ∈ ks, k < 9223372036854775808) → (numL ks).length ≤ 9 * ks.length
  | [], _ => by simp [numL]
  | k :: ks, h => by
    have h1 := length_putZ (h k (List.mem_cons_self ..))
    have h2 := length_numL (ks := ks) (fun x hx => h x (List.mem_cons_of_mem _ hx))
    have e : numL (k :: ks) = putZ k ++ numL ks := rfl
    rw [e, List.length_append, List.length_cons]
    omega
theorem length_textL (s : ByteArray) : (textL s).length = (putL s.size).length + s.size := by rw [textL, List.length_append, size_toList]

/-- what was new is new in what came ahead -/
theorem Fr.back {w0 w w' : World} (h : w0.heap.size ≤ w.heap.size) : ∀ k, Fr w w' k → Fr w0 w' k := fun _ hk => ⟨Nat.le_trans h hk.1, hk.2⟩
theorem Fr.on {w w1 w2 : World} (h : w1.heap.size ≤ w2.heap.size) : ∀ k, Fr w w1 k → Fr w w2 k := fun _ hk => ⟨hk.1, Nat.lt_of_lt_of_le hk.2 h⟩

theorem fresh_or {w0 w1 w2 w3 : World} (h : w0.heap.size ≤ w2.heap.size) : ∀ k, (Fr w0 w1 k ∨ Fr w2 w3 k) → w0.heap.size ≤ k := fun _ hk => by
  rcases hk with hk | hk
  · exact hk.1
  · exact Nat.le_trans h hk.1
theorem Own.fresh {F : Nat → Prop} {w0 w : World} {t : TypeId} {sz : Nat} {a : Option Addr} {n c : Nat} {cs : List Value} (h : Own F w t sz a n c cs) (hF : ∀ k, F k → w0.heap.size ≤ k) : Own (Fr w0 w) w t sz a n c cs :=
  h.inHeap.mono (fun _ hk => ⟨hF _ hk.1, hk.2⟩)
theorem Upd.past {G : Nat → Prop} {w0 w w' : World} (h : Upd Nil w0 w) (k : Upd G w w') (hG : ∀ k, G k → w0.heap.size ≤ k) : Upd Nil w0 w' :=
  h.trans k (fun i hi hlt => by have := hG i hi; omega)

set_option maxRecDepth 100000 in
set_option maxHeartbeats 2000000 in
theorem net_message {F : Nat → Prop} (w : World) (k : UInt8) {kv : Int} (hkv : kv = (k.toNat : Int)) (id text : ByteArray) {a : Option Addr} (c : Nat) {ks : List Int} (hr : Row F w a (nvs ks)) (hk : ∀ z ∈ ks, z < 9223372036854775808) (hn : ks.length ≤ 100) (hi : id.size ≤ 1000) (ht : text.size ≤ 10000) (tab : Tab w) :
    Calls Tryd.prog 61 #[.int .u8 kv, .string id, .string text, .slice a ks.length c] w (GotBytes w (frameL (bodyL k ks id text)) 0) := by
  subst hkv
  have HR := Lib.hid hr
  have HK := Lib.hid hk
  have HT := Lib.hid tab
  clear hr hk tab
  go_enter Tryd.func61, Tryd.ntmps61
  go_wp2
  go_loopg [10, 17] ks.length (fun q s i wr => ∃ (j : Nat) (ys : List UInt8) (a1 : Option Addr) (c1 : Nat), j + q = ks.length ∧ i = .int .i64 j ∧ s = .slice a1 ys.length c1 ∧ ys = [k] ++ numL (ks.take j) ∧ Own (Fr w wr) wr 5 1 a1 ys.length c1 (bvs ys) ∧ Upd Nil w wr)
  case atStart =>
    refine ⟨0, [k], some ⟨w.heap.size, 0, none⟩, 1, by omega, rfl, rfl, by simp [numL], ?_, (Upd.refl Nil w).alloc _⟩
    exact (Own.lit (t := 5) (sz := 1) w #[Value.int .u8 (k.toNat : Int)] 1 (by decide) rfl).mono (fun q hq => by subst hq; exact ⟨Nat.le_refl _, by simp⟩)
  case round =>
    obtain ⟨j, ys, a1, c1, hjk, rfl, rfl, hys, hown, hup⟩ := hrel
    have hjn : j ≤ ks.length := by omega
    have hnl := length_numL (ks := ks.take j) (fun z hz => HK.out z (List.mem_of_mem_take hz))
    rw [List.length_take, Nat.min_eq_left hjn] at hnl
    have hyl : ys.length ≤ 1000 := by rw [hys, List.length_append, List.length_singleton]; omega
    have HJ := Lib.hid hjk
    have HY := Lib.hid hys
    have HO := Lib.hid hown
    have HU := Lib.hid hup
    clear hjk hys hown hup hnl
    by_cases hlt : j < ks.length
    · obtain ⟨b, o, rfl, hF, hcell⟩ := rowAt HR.out (nvs_get hlt)
      have hc := HU.out.cell hcell (fun f => f)
      have hzl := HK.out (ks[j]) (List.getElem_mem hlt)
      obtain ⟨z, hz⟩ : ∃ z, ks[j] = z := ⟨_, rfl⟩
      rw [hz] at hc hzl
      have HZ := Lib.hid hz
      have HZl := Lib.hid hzl
      clear hcell hz hzl
      go_wp2_with (go_at_call 14; refine (wire_Put _ c1 HO.out.row HO.out.noneCap (by omega) z HZl.out).mono ?_; rintro e w2 ⟨a2, c2, rfl, g1, g2⟩; have HO2 := Lib.hid g1; have HU2 := Lib.hid g2; clear g1 g2)
      go_roundg (gk - 1)
      case measure => have := HJ.out; omega
      case rel => exact ⟨j + 1, ys ++ putZ z, a2, c2, by have := HJ.out; omega, by go_num, by rw [List.length_append], by rw [HY.out, numL_take_succ hlt, HZ.out, List.append_assoc], HO2.out.mono (Fr.back HU.out.size), HU.out.trans HU2.out (fun _ f _ => f)⟩
    · obtain rfl : j = ks.length := by omega
      have hy := HY.out
      rw [List.take_length] at hy
      have h1 := length_textL id
      have h2 := length_textL text
      have h3 := length_putL (n := id.size) (by omega)
      have h4 := length_putL (n := text.size) (by omega)
      obtain ⟨y1, hy1⟩ : ∃ y1, ys ++ textL id = y1 := ⟨_, rfl⟩
      obtain ⟨y2, hy2⟩ : ∃ y2, y1 ++ textL text = y2 := ⟨_, rfl⟩
      have hl1 : y1.length ≤ 10000 := by rw [← hy1, List.length_append]; omega
      have hl2 : y2.length ≤ 65536 := by rw [← hy2, List.length_append]; omega
      have hB : y2 = bodyL k ks id text := by rw [bodyL, ← hy2, ← hy1, hy]
      have HB := Lib.hid hB
      have HY1 := Lib.hid hy1
      have HY2 := Lib.hid hy2
      clear hy h1 h2 h3 h4 hy1 hy2 hB
      go_wp2_with (first
        | (have _a := HJ; go_at_call 15; refine (wire_Text _ c1 HO.out.row HO.out.noneCap id (by omega)).mono ?_; rintro e w2 hg; rw [HY1.out] at hg; obtain ⟨a2, c2, rfl, g1, g2⟩ := hg; have HO2 := Lib.hid g1; have HU2 := Lib.hid (HU.out.trans g2 (fun _ f _ => f)); clear g1 g2 HJ)
        | (go_at_call 15; refine (wire_Text _ c2 HO2.out.row HO2.out.noneCap text (by omega)).mono ?_; rintro e w3 hg; rw [HY2.out] at hg; obtain ⟨a3, c3, rfl, g1, g2⟩ := hg; have HO3 := Lib.hid g1; have HU3 := Lib.hid (HU2.out.trans g2 (fun _ f _ => f)); clear g1 g2)
        | (go_at_call 21; refine (wire_Frame_yes _ c3 HO3.out.row HO3.out.noneCap HO3.out.le.1 HO3.out.le.2 hl2 (HT.out.upd HU3.out (fun f => f))).mono ?_; rintro e w4 ⟨a4, c4, rfl, g1, g2⟩; have HO4 := Lib.hid g1; have HU4 := Lib.hid (HU3.out.trans g2 (fun _ f _ => f)); clear g1 g2))
      go_ret2
      have ho := HO4.out.mono (Fr.back HU3.out.size)
      rw [HB.out] at ho
      exact ⟨a4, c4, by rw [← HB.out]; rfl, ho, HU4.out⟩

/-- a request's message -/
def askL (r : Req) : List UInt8 := frameL (bodyL 1 [r.kind, r.session] r.id r.text)
def askB (r : Req) : List UInt8 := if mayL r then askL r else []
def askZ (r : Req) : Int := if mayL r then 0 else 1
def replyL (r : Rep) : List UInt8 := frameL (bodyL 2 [r.status, r.session, r.why] r.id r.text)
def replyB (r : Rep) : List UInt8 := if mayRepL r then replyL r else []
def replyZ (r : Rep) : Int := if mayRepL r then 0 else 1
theorem mayL_facts {r : Req} (h : mayL r = true) : r.id.size ≤ 8 ∧ r.text.size ≤ 1200 ∧ 0 < r.kind ∧ r.kind ≤ 2 ∧ 0 ≤ r.session ∧ r.session < 10000 := by
  simp only [mayL, isIDL, Bool.and_eq_true, Bool.or_eq_true, decide_eq_true_eq] at h
  omega
theorem mayRepL_facts {r : Rep} (h : mayRepL r = true) : r.id.size ≤ 8 ∧ r.text.size ≤ 1000 ∧ 0 < r.status ∧ r.status ≤ 3 ∧ 0 ≤ r.session ∧ r.session < 10000 ∧ 0 ≤ r.why ∧ r.why < 1000 := by
  simp only [mayRepL, isIDL, Bool.and_eq_true, Bool.or_eq_true, decide_eq_true_eq] at h
  omega
theorem GotBytes.none_ {w w' : World} {z : Int} (u : Upd Nil w w') : GotBytes w [] z (.returned (.tuple #[.slice none 0 0, .int .i64 z])) w' := ⟨none, 0, rfl, Own.none_ _ _ _ _, u⟩

set_option maxRecDepth 100000 in
set_option maxHeartbeats 2000000 in
theorem net_Ask (w : World) (r : Req) (h1 : r.id.size ≤ 140737488355328) (h2 : r.text.size ≤ 140737488355328) (tab : Tab w) :
    Calls Tryd.prog 27 #[r.val] w (GotBytes w (askB r) (askZ r)) := by
  have HM := Lib.hid (fun w => net_may w r h1 h2)
  have HT := Lib.hid tab
  have hf := @mayL_facts r
  unfold askB askZ askL
  obtain ⟨b, hb⟩ : ∃ b, mayL r = b := ⟨_, rfl⟩
  rw [hb] at HM hf ⊢
  clear hb tab
  obtain ⟨id, kind, session, text⟩ := r
  unfold Req.val at HM ⊢
  dsimp only at h1 h2 HM hf ⊢
  cases b
  · go_enter Tryd.func27, Tryd.ntmps27
    go_wp2_with (go_at_call 60; refine (HM.out _).mono ?_; rintro e w1 ⟨rfl, g⟩; have HU := Lib.hid g; clear g)
    go_ret2
    exact GotBytes.none_ (((Upd.refl Nil w).alloc _).trans HU.out (fun _ f _ => f))
  · obtain ⟨f1, f2, f3, f4, f5, f6⟩ := hf rfl
    have HB := Lib.hid (show ∀ z ∈ [kind, session], z < 9223372036854775808 by
      intro z hz
      simp only [List.mem_cons, List.not_mem_nil, or_false] at hz
      omega)
    have b0 := (Blk.new w 46 #[.string id, .int .i64 kind, .int .i64 session, .string text])
    have HB0 := Lib.hid b0
    clear b0 hf
    go_enter Tryd.func27, Tryd.ntmps27
    go_wp2_with (first
      | (go_at_call 60; refine (HM.out _).mono ?_; rintro e w1 ⟨rfl, g⟩; have HU := Lib.hid g; have hb := HB0.out.upd g (fun f => f); have k0 := hb.cell 0; have k1 := hb.cell 1; have k2 := hb.cell 2; have k3 := hb.cell 3; clear g hb)
      | (go_at_call 61; refine (net_message (F := One w1.heap.size) _ 1 rfl id text 2 (ks := [kind, session]) (Own.lit (t := 3) (sz := 1) w1 #[.int .i64 kind, .int .i64 session] 2 (by decide) rfl).row HB.out (by simp) (by omega) (by omega) (HT.out.upd ((((Upd.refl Nil w).alloc _).trans HU.out (fun _ f _ => f)).alloc _) (fun f => f))).mono ?_; rintro e w4 ⟨a4, c4, rfl, g1, g2⟩; have HO4 := Lib.hid g1; have HU4 := Lib.hid g2; clear g1 g2))
    go_ret2
    have hu := (((Upd.refl Nil w).alloc _).trans HU.out (fun _ f _ => f)).alloc (.cells #[.int .i64 kind, .int .i64 session] 3)
    exact ⟨a4, c4, rfl, HO4.out.mono (Fr.back hu.size), hu.trans HU4.out (fun _ f _ => f)⟩

set_option maxRecDepth 100000 in
set_option maxHeartbeats 2000000 in
theorem net_Reply (w : World) (r : Rep) (h1 : r.id.size ≤ 140737488355328) (h2 : r.text.size ≤ 140737488355328) (tab : Tab w) :
    Calls Tryd.prog 33 #[r.val] w (GotBytes w (replyB r) (replyZ r)) := by
  have HM := Lib.hid (fun w => net_mayReply w r h1 h2)
  have HT := Lib.hid tab
  have hf := @mayRepL_facts r
  unfold replyB replyZ replyL
  obtain ⟨b, hb⟩ : ∃ b, mayRepL r = b := ⟨_, rfl⟩
  rw [hb] at HM hf ⊢
  clear hb tab
  obtain ⟨id, status, session, why, text⟩ := r
  unfold Rep.val at HM ⊢
  dsimp only at h1 h2 HM hf ⊢
  cases b
  · go_enter Tryd.func33, Tryd.ntmps33
    go_wp2_with (go_at_call 69; refine (HM.out _).mono ?_; rintro e w1 ⟨rfl, g⟩; have HU := Lib.hid g; clear g)
    go_ret2
    exact GotBytes.none_ (((Upd.refl Nil w).alloc _).trans HU.out (fun _ f _ => f))
  · obtain ⟨f1, f2, f3, f4, f5, f6, f7, f8⟩ := hf rfl
    have HB := Lib.hid (show ∀ z ∈ [status, session, why], z < 9223372036854775808 by
      intro z hz
      simp only [List.mem_cons, List.not_mem_nil, or_false] at hz
      omega)
    have b0 := (Blk.new w 53 #[.string id, .int .i64 status, .int .i64 session, .int .i64 why, .string text])
    have HB0 := Lib.hid b0
    clear b0 hf
    go_enter Tryd.func33, Tryd.ntmps33
    go_wp2_with (first
      | (go_at_call 69; refine (HM.out _).mono ?_; rintro e w1 ⟨rfl, g⟩; have HU := Lib.hid g; have hb := HB0.out.upd g (fun f => f); have k0 := hb.cell 0; have k1 := hb.cell 1; have k2 := hb.cell 2; have k3 := hb.cell 3; have k4 := hb.cell 4; clear g hb)
      | (go_at_call 61; refine (net_message (F := One w1.heap.size) _ 2 rfl id text 3 (ks := [status, session, why]) (Own.lit (t := 3) (sz := 1) w1 #[.int .i64 status, .int .i64 session, .int .i64 why] 3 (by decide) rfl).row HB.out (by simp) (by omega) (by omega) (HT.out.upd ((((Upd.refl Nil w).alloc _).trans HU.out (fun _ f _ => f)).alloc _) (fun f => f))).mono ?_; rintro e w4 ⟨a4, c4, rfl, g1, g2⟩; have HO4 := Lib.hid g1; have HU4 := Lib.hid g2; clear g1 g2))
    go_ret2
    have hu := (((Upd.refl Nil w).alloc _).trans HU.out (fun _ f _ => f)).alloc (.cells #[.int .i64 status, .int .i64 session, .int .i64 why] 3)
    exact ⟨a4, c4, rfl, HO4.out.mono (Fr.back hu.size), hu.trans HU4.out (fun _ f _ => f)⟩
end Go.Proofs.YtbaombnnagidcaaDoor
