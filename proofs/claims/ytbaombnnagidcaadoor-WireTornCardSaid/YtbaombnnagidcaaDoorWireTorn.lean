/- WireTorn: the walk. -/
import Derived.Test.YtbaombnnagidcaaDoorTorn
namespace Go.Proofs.YtbaombnnagidcaaDoor.wireTorn
open Go.RowKit

theorem u64_nonneg' (i : Int) : 0 ≤ IntKind.u64.wrap i := by
  simp only [IntKind.wrap_u64]
  omega
theorem mod_place (z : Int) {n : Nat} (h0 : 0 < n) (h1 : n ≤ 1000000) : ∃ m : Nat, m < n ∧ wrap64 ((IntKind.u64.wrap z).tmod (n : Int)) = (m : Int) := by
  have hz := u64_nonneg' z
  have e := Int.tmod_eq_emod_of_nonneg (b := (n : Int)) hz
  have h2 : 0 ≤ IntKind.u64.wrap z % (n : Int) := Int.emod_nonneg _ (by omega)
  have h3 : IntKind.u64.wrap z % (n : Int) < n := Int.emod_lt_of_pos _ (by omega)
  obtain ⟨r, hr⟩ : ∃ r, IntKind.u64.wrap z % (n : Int) = r := ⟨_, rfl⟩
  rw [hr] at h2 h3 e
  refine ⟨r.toNat, by omega, ?_⟩
  rw [e]
  unfold wrap64
  omega

theorem by_val (z : Int) : ∃ v : Nat, 1 ≤ v ∧ v < 256 ∧ IntKind.u64.wrap (1 + (IntKind.u64.wrap z).tmod 255) % 256 = (v : Int) := by
  have hz := u64_nonneg' z
  have e := Int.tmod_eq_emod_of_nonneg (b := (255 : Int)) hz
  obtain ⟨r, hr⟩ : ∃ r, IntKind.u64.wrap z % (255 : Int) = r := ⟨_, rfl⟩
  have h2 : 0 ≤ r := by omega
  have h3 : r < 255 := by omega
  refine ⟨(1 + r).toNat, by omega, by omega, ?_⟩
  rw [e, hr, IntKind.wrap_u64]
  omega
theorem xor_ne (y : UInt8) {v : Nat} (h1 : 1 ≤ v) (h2 : v < 256) : UInt8.ofNat (y.toNat ^^^ v) ≠ y ∧ bits .xor .u8 (y.toNat : Int) (v : Int) = ((UInt8.ofNat (y.toNat ^^^ v)).toNat : Int) := by
  have hy := y.toNat_lt
  have hx : y.toNat ^^^ v < 256 := Nat.xor_lt_two_pow (n := 8) hy h2
  refine ⟨fun h => ?_, ?_⟩
  · have := congrArg UInt8.toNat h
    rw [toNat_ofNat8 hx] at this
    have h3 : y.toNat ^^^ (y.toNat ^^^ v) = y.toNat ^^^ y.toNat := by rw [this]
    rw [← Nat.xor_assoc, Nat.xor_self, Nat.zero_xor] at h3
    omega
  · rw [toNat_ofNat8 hx, u8_xor_nat _ _ hy h2]

theorem walk_long (w : World) (a : Option Addr) {n : Nat} (c : Nat) (h : 65536 < n) (cut k b : Int) :
    Calls Tryd.prog 4 #[.slice a n c, .int .i64 cut, .int .i64 k, .int .i64 b] w fun e w' => e = .returned (.bool true) ∧ Upd Nil w w' := by
  go_enter Tryd.func4, Tryd.ntmps4
  go_wp2_with (go_at_call 21; refine (wire_Frame_no _ _ _ h).mono ?_; rintro e w' ⟨rfl, rfl⟩)
  go_ret
  refine ⟨?_, Upd.refl _ _⟩
  show Ending.returned (.bool (decide ((65536 : Int) < (n : Int)))) = _
  rw [decide_eq_true (by omega)]

theorem unframe_at {F : Nat → Prop} (w : World) {a : Option Addr} (c : Nat) {xs : List UInt8} {n : Nat} (hr : Row F w a (bvs xs)) (hn : xs.length = n) (hx : n ≤ 140737488355328) (ht : Tab w) :
    Calls Tryd.prog 22 #[.slice a n c] w (GotTwo w (unframeL xs)) := by
  subst hn
  exact wire_Unframe w c hr hx ht

set_option maxRecDepth 100000 in
set_option maxHeartbeats 2000000 in
theorem walk {F : Nat → Prop} (w : World) {a : Option Addr} (c : Nat) {p : List UInt8} (hr : Row F w a (bvs p)) (hA : a = none → c = 0) (hc : p.length ≤ c) (hcm : c ≤ maxLen) (hp : p.length ≤ 65536) (cut k b : Int) (ht : Tab w) :
    Calls Tryd.prog 4 #[.slice a p.length c, .int .i64 cut, .int .i64 k, .int .i64 b] w fun e w' => e = .returned (.bool true) ∧ Upd Nil w w' := by
  have HR := Lib.hid hr
  have HA := Lib.hid hA
  have HC := Lib.hid (And.intro hc hcm)
  have HT := Lib.hid ht
  have hfl := length_frameL p
  have h3 := length_put3 hp
  obtain ⟨X, hX⟩ : ∃ X, frameL p = X := ⟨_, rfl⟩
  rw [hX] at hfl
  have hxl1 : p.length + 4 ≤ X.length := by omega
  have hxl2 : X.length ≤ 65600 := by omega
  obtain ⟨m, hm, e1⟩ := mod_place cut (n := X.length) (by omega) (by omega)
  obtain ⟨q, hq, e2⟩ := mod_place k (n := p.length + 4) (by omega) (by omega)
  rw [show ((p.length + 4 : Nat) : Int) = (p.length : Int) + 4 from rfl] at e2
  obtain ⟨ix, hix⟩ : ∃ ix : Nat, (X.length : Int) - 1 - (q : Int) = (ix : Int) := ⟨X.length - 1 - q, by omega⟩
  have hixl : ix < X.length := by omega
  have hcut := torn_cut hp (m := m) (by rw [hX]; exact hm)
  rw [hX] at hcut
  obtain ⟨U, hU⟩ : ∃ U, unframeL (X.take m) = U := ⟨_, rfl⟩
  rw [hU] at hcut
  obtain ⟨u1, u2, z1⟩ := U
  have hz1 : (z1 != 0) = true := by rw [bne_iff_ne]; exact hcut
  have hz2 : (z1 == 0) = false := by rw [beq_eq_false_iff_ne]; exact hcut
  have HU := Lib.hid hU
  have HX := Lib.hid hX
  have HTk := Lib.hid (show (X.take m).length = m by rw [List.length_take]; omega)
  have HXb := Lib.hid (bvs_get X ix hixl)
  obtain ⟨y, hy⟩ : ∃ y, X[ix] = y := ⟨_, rfl⟩
  rw [hy] at HXb
  have hyl := y.toNat_lt
  have HY := Lib.hid hy
  obtain ⟨v, hv1, hv2, e3⟩ := by_val b
  obtain ⟨hne, e4⟩ := xor_ne y hv1 hv2
  obtain ⟨y', hy'⟩ : ∃ y', UInt8.ofNat (y.toNat ^^^ v) = y' := ⟨_, rfl⟩
  rw [hy'] at hne e4
  have hturn : unframeL (X.set ix y') = ([], [], 13) := by
    obtain ⟨j, hj⟩ : ∃ j, ix = (putL p.length).length + j := ⟨ix - (putL p.length).length, by omega⟩
    have hX2 : X = putL p.length ++ (p ++ fourL (sumL p)) := by rw [← hX, frameL, List.append_assoc]
    have hjl : j < p.length + 4 := by omega
    have hset : X.set ix y' = putL p.length ++ (p ++ fourL (sumL p)).set j y' := by
      rw [hX2, hj, List.set_append, if_neg (by omega)]
      congr 2
      omega
    rw [hset]
    refine torn_turn hp hjl ?_
    have hg : (p ++ fourL (sumL p))[j]? = some y := by
      have h1 : X[ix]? = some y := by rw [List.getElem?_eq_getElem hixl, hy]
      rw [hX2, List.getElem?_append_right (by omega)] at h1
      rwa [show ix - (putL p.length).length = j by omega] at h1
    intro h
    rw [List.getElem?_eq_getElem (by rw [List.length_append, length_fourL]; exact hjl)] at hg
    injection hg with hg
    exact hne (h.trans hg)
  have HTurn := Lib.hid hturn
  have HIx := Lib.hid hix
  have tok1 : True := trivial
  clear hr hA hc hcm ht hX hfl h3 hcut hU hy hy' hne hturn
  go_enter Tryd.func4, Tryd.ntmps4
  go_wp2_with (first
    | (go_at_call 21; refine (wire_Frame_yes _ c HR.out HA.out HC.out.1 HC.out.2 hp HT.out).mono ?_; rintro e w1 hg; rw [HX.out] at hg; obtain ⟨a1, c1, rfl, g1, g2⟩ := hg
       obtain ⟨gb, rfl, hgF⟩ := g1.isNone (by omega)
       have hc1 := g1.le.1; have hcm1 := le_max g1.le.2; have HO1 := Lib.hid g1; have HU1 := Lib.hid g2; have HT1 := Lib.hid (HT.out.upd g2 (fun f => f)); clear g1 g2)
    | (go_at_call 22; have _t := tok1; refine (unframe_at _ c1 (xs := X.take m) (by rw [bvs_take]; exact HO1.out.row.take m) HTk.out (by omega) HT1.out).mono ?_; rintro e w2 hg; rw [HU.out] at hg; obtain ⟨ua, uc, ub, ud, rfl, _, _, _, _, _, g2⟩ := hg; have HU2 := Lib.hid g2; have HT2 := Lib.hid (HT1.out.upd g2 (fun f => f)); clear g2 tok1)
    | (go_at_call 13; refine (bytesClone _ c1 (HO1.out.keep HU2.out).row (by omega)).mono ?_; rintro e w3 ⟨a3, c3, rfl, g1, g2⟩
       obtain ⟨g3, rfl, hg3F⟩ := g1.isNone (by omega)
       have hf := g1.frozen rfl ix; have hcell := ownCell g1 HXb.out; have HO3 := Lib.hid g1; have HU3 := Lib.hid g2; have HT3 := Lib.hid (HT2.out.upd g2 (fun f => f)); clear g1 g2))
  have hg30 : ¬ One g3 0 := fun e => by
    have e' : 0 = g3 := e
    have h1 := hg3F.1
    have h2 := HU1.out.size
    have h3 := HU2.out.size
    have h4 := World.block_lt_of_cell? w _ (HT.out 0 (by decide))
    omega
  have one : Upd (One g3) w3 (w3.setCell ⟨g3, ix, none⟩ (.int .u8 (y'.toNat : Int))) := (Upd.refl (One g3) w3).setCell (p := ⟨g3, ix, none⟩) (.inl rfl) _
  have hst := HO3.out.stored rfl ix (.int .u8 (y'.toNat : Int))
  rw [show (bvs X).set ix (.int .u8 (y'.toNat : Int)) = bvs (X.set ix y') by simp [bvs, bv, List.map_set]] at hst
  have HSt := Lib.hid hst
  have HT4 := Lib.hid (HT3.out.upd one hg30)
  have HOne := Lib.hid one
  clear hst one hg30
  go_wp2_with (go_at_call 22; refine (unframe_at _ c3 (xs := X.set ix y') HSt.out.row (by simp) (by omega) HT4.out).mono ?_; rintro e w5 hg; rw [HTurn.out] at hg; obtain ⟨va, vc, vb, vd, rfl, _, _, _, _, _, g2⟩ := hg; have HU5 := Lib.hid g2; clear g2)
  go_ret
  exact ⟨rfl, ((((HU1.out.trans HU2.out (fun _ f _ => f)).trans HU3.out (fun _ f _ => f)).trans HOne.out (fun k hk hlt => by have hk' : k = g3 := hk; have := hg3F.1; have := HU1.out.size; have := HU2.out.size; omega)).trans HU5.out (fun _ f _ => f))⟩
end Go.Proofs.YtbaombnnagidcaaDoor.wireTorn
