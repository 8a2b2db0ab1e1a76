/- WireBack: the walk. -/
import Derived.Test.YtbaombnnagidcaaDoorTorn
namespace Go.Proofs.YtbaombnnagidcaaDoor.wireBack
open Go.RowKit

theorem textR_put {s : ByteArray} (hs : s.size ≤ 1048576) (rest : List UInt8) : textR s.size (textL s ++ rest) = (s.data.toList, (textL s).length, 0) := by
  have hl : (s.data.toList ++ rest).take s.size = s.data.toList := by rw [← size_toList s]; exact List.take_left
  rw [textR, textL, List.append_assoc, scanL_put (by omega)]
  dsimp only
  rw [if_neg (by decide), if_neg (by omega), if_neg, List.drop_left, hl]
  · rw [List.length_append, size_toList]
  · rw [List.length_append, List.length_append, size_toList]
    omega

theorem unframe_back {p rest : List UInt8} (hp : p.length ≤ 65536) : unframeL (frameL p ++ rest) = (p, rest, 0) := by
  have e : frameL p ++ rest = putL p.length ++ (p ++ (fourL (sumL p) ++ rest)) := by rw [frameL, List.append_assoc, List.append_assoc]
  have h4 : (fourL (sumL p) ++ rest).take 4 = fourL (sumL p) := List.take_left' (by rw [length_fourL])
  have hd : (p ++ (fourL (sumL p) ++ rest)).drop (p.length + 4) = rest := by
    rw [← List.append_assoc]
    exact List.drop_left' (by rw [List.length_append, length_fourL])
  rw [e, unframeL, scanL_put (by omega)]
  dsimp only
  rw [if_neg (by decide), if_neg (by omega), List.drop_left, if_neg, List.take_left, List.drop_left, if_pos h4.symm, hd]
  rw [List.length_append, List.length_append, length_fourL]
  omega

theorem put_nilZ (w : World) (z : Int) (hz : z < 9223372036854775808) :
    Calls Tryd.prog 14 #[.slice none 0 0, .int .i64 z] w (RetOwn w 5 1 (putZ z).length (bvs (putZ z))) := by
  have := wire_Put (F := Nil) w (xs := []) 0 (Row.nil _ _ none) (fun _ => rfl) (by decide) z hz
  rw [List.nil_append] at this
  exact this
theorem over_at {F : Nat → Prop} (w : World) {a : Option Addr} (c : Nat) {xs : List UInt8} {n : Nat} (hr : Row F w a (bvs xs)) (hn : xs.length = n) (hx : n ≤ 140737488355328) :
    Calls Tryd.prog 23 #[.slice a n c] w (GotRd w xs) := by
  subst hn
  exact rd_Over w c hr hx
theorem unframe_at {F : Nat → Prop} (w : World) {a : Option Addr} (c : Nat) {xs : List UInt8} {n : Nat} (hr : Row F w a (bvs xs)) (hn : xs.length = n) (hx : n ≤ 140737488355328) (ht : Tab w) :
    Calls Tryd.prog 22 #[.slice a n c] w (GotTwo w (unframeL xs)) := by
  subst hn
  exact wire_Unframe w c hr hx ht
theorem scanL_putZ {z : Int} (h : z < 9223372036854775808) (rest : List UInt8) : scanL (putZ z ++ rest) = (z.toNat, (putZ z).length, 0) := scanL_put (by omega) rest
theorem str_data (s : ByteArray) : str s.data.toList = s := by
  cases s
  rfl

set_option maxRecDepth 100000 in
set_option maxHeartbeats 4000000 in
theorem walk {F G : Nat → Prop} (w : World) (z : Int) (hz : z < 9223372036854775808) (s : ByteArray) {a b : Option Addr} (c d : Nat) {p rest : List UInt8} (hr : Row F w a (bvs p)) (hA : a = none → c = 0) (hc : p.length ≤ c) (hcm : c ≤ maxLen)
    (hs : Row G w b (bvs rest)) (hB : b = none → d = 0) (hb : s.size + p.length + rest.length ≤ 1048576) (ht : Tab w) :
    Calls Tryd.prog 5 #[.int .i64 z, .string s, .slice a p.length c, .slice b rest.length d] w fun e w' => e = .returned (.bool true) ∧ Upd Nil w w' := by
  have HP := Lib.hid hr
  have HPA := Lib.hid hA
  have HPC := Lib.hid (And.intro hc hcm)
  have HR := Lib.hid hs
  have HRA := Lib.hid hB
  have HT := Lib.hid ht
  have HZ := Lib.hid hz
  have HB := Lib.hid hb
  have hzl := length_putZ hz
  obtain ⟨i0, hi, hz0, hz1, hz2⟩ := info_parts infoU8
  have hi0 := Lib.hid (And.intro hi (And.intro hz0 (And.intro hz1 hz2)))
  clear hi hz0 hz1 hz2 hr hA hc hcm hs hB ht
  have htl := length_putL (n := s.size) (by omega)
  have htl2 : (textL s).length = (putL s.size).length + s.size := by rw [textL, List.length_append, size_toList]
  have hsc := scanL_putZ hz (textL s ++ rest)
  have htx := textR_put (s := s) (by omega) rest
  obtain ⟨ys, hys⟩ : ∃ ys, putZ z = ys := ⟨_, rfl⟩
  rw [hys] at hsc hzl
  obtain ⟨m, hm⟩ : ∃ m, z.toNat = m := ⟨_, rfl⟩
  have hmx : max z 0 = (m : Int) := by omega
  rw [hm] at hsc
  obtain ⟨ts, hts⟩ : ∃ ts, ys ++ textL s = ts := ⟨_, rfl⟩
  have htsl : ts.length = ys.length + (textL s).length := by rw [← hts, List.length_append]
  obtain ⟨L, hL⟩ : ∃ L, ts ++ rest = L := ⟨_, rfl⟩
  have hLl : L.length = ts.length + rest.length := by rw [← hL, List.length_append]
  rw [← List.append_assoc, hts, hL] at hsc
  have hd0 : L.drop 0 = L := List.drop_zero
  have hd1 : L.drop (0 + ys.length) = textL s ++ rest := by rw [Nat.zero_add, ← hL, ← hts, List.append_assoc, List.drop_left]
  have hd2 : (L.drop (0 + ys.length + (textL s).length)).length = rest.length := by rw [List.length_drop]; omega
  have HYs := Lib.hid hys
  have HTs := Lib.hid hts
  have HL := Lib.hid hL
  have HLl := Lib.hid hLl
  have HSc := Lib.hid hsc
  have HTx := Lib.hid htx
  have HD0 := Lib.hid hd0
  have HD1 := Lib.hid hd1
  have HD2 := Lib.hid hd2
  have hsz : s.size ≤ 1048576 := by omega
  have htl3 : ts.length ≤ 1048600 := by omega
  have hLl2 : ts.length + rest.length ≤ 2200000 := by omega
  have htn : ts.length ≠ 0 ∨ ts.length = 0 := by omega
  clear hys hts hL hLl hsc htx hd0 hd1 hd2 htl htl2 htsl hz hm htn
  have tok1 : True := trivial
  by_cases hp : p.length ≤ 65536
  · have hub := unframe_back (p := p) (rest := rest) hp
    have h3 := length_put3 hp
    have hfl := length_frameL p
    obtain ⟨X, hX⟩ : ∃ X, frameL p = X := ⟨_, rfl⟩
    rw [hX] at hub hfl
    have hxl : X.length ≤ 65600 := by omega
    have hXl : (X ++ rest).length = X.length + rest.length := List.length_append
    have HX := Lib.hid hX
    have HUb := Lib.hid hub
    have HXl := Lib.hid hXl
    have hxr : X.length + rest.length ≤ 1200000 := by omega
    clear hX hub h3 hfl hXl hb
    go_enter Tryd.func5, Tryd.ntmps5
    go_wp2_with (first
      | (go_at_call 14; refine (put_nilZ _ _ HZ.out).mono ?_; rintro e w1 hg; rw [HYs.out] at hg; obtain ⟨a1, c1, rfl, g1, g2⟩ := hg; have HO1 := Lib.hid g1; have HU1 := Lib.hid g2; clear g1 g2)
      | (go_at_call 15; refine (wire_Text _ c1 HO1.out.row HO1.out.noneCap s (by omega)).mono ?_; rintro e w2 hg; rw [HTs.out] at hg; obtain ⟨a2, c2, rfl, g1, g2⟩ := hg; have HO2 := Lib.hid g1; have HU2 := Lib.hid (HU1.out.trans g2 (fun _ f _ => f)); clear g1 g2)
      | (at_builtin; refine wpList_append_Own rfl (.tmp 21) (.tmp 22) 22 rfl Tryd.underlying22 hi0.out.1 hi0.out.2.1 hi0.out.2.2.1 hi0.out.2.2.2 rfl (by decide) rfl HO2.out rfl (HR.out.keep HU2.out) (by simp) (bvs_one _) HRA.out (by simp only [maxLen]; omega) (by omega) ?_; intro a3 c3 w3 g1 g2 _; rw [← bvs_append, HL.out] at g1; have HO3 := Lib.hid g1; have HU3 := Lib.hid (HU2.out.trans g2 (fun k hk hlt => by have := hk.1; have := HU1.out.size; omega)); clear g1 g2)
      | (go_at_call 23; refine (over_at _ c3 HO3.out.row HLl.out (by omega)).mono ?_; rintro e w4 ⟨sr, F1, rfl, g1, g2, g3⟩; have H4 := Lib.hid g1; have H2 := Lib.hid g2; have HU4 := Lib.hid (HU3.out.trans g3 (fun _ f _ => f)); clear g1 g2 g3)
      | (go_at_call 24; refine (rd_Uint _ H4.out).mono ?_; rintro e w5 hg; rw [HD0.out, HSc.out] at hg; dsimp only at hg; obtain ⟨rfl, g1, g2⟩ := hg; have H5 := Lib.hid g1; have HU5 := Lib.hid g2; clear g1 g2)
      | (go_at_call 25; refine (rd_Text _ H5.out s.size).mono ?_; rintro e w6 hg; rw [HD1.out, HTx.out] at hg; dsimp only at hg; rw [str_data] at hg; obtain ⟨rfl, g1, g2⟩ := hg; have H6 := Lib.hid g1; have HU6 := Lib.hid g2; clear g1 g2)
      | (go_at_call 26; refine (rd_Left _ H6.out).mono ?_; rintro e w7 hg; rw [HD2.out] at hg; obtain ⟨rfl, g2⟩ := hg; have HU7 := Lib.hid (((HU4.out.trans HU5.out (fun k hk hlt => by have := (H2.out k hk).1; have := HU3.out.size; omega)).trans HU6.out (fun k hk hlt => by have := (H2.out k hk).1; have := HU3.out.size; omega)).trans g2 (fun _ f _ => f)); clear g2)
      | (go_at_call 21; refine (wire_Frame_yes _ c (HP.out.keep HU7.out) HPA.out HPC.out.1 HPC.out.2 hp (HT.out.upd HU7.out (fun f => f))).mono ?_; rintro e w8 hg; rw [HX.out] at hg; obtain ⟨a8, c8, rfl, g1, g2⟩ := hg; have HO8 := Lib.hid g1; have HU8 := Lib.hid (HU7.out.trans g2 (fun _ f _ => f)); clear g1 g2)
      | (go_at_call 13; refine (bytesClone _ c8 HO8.out.row (by omega)).mono ?_; rintro e w9 ⟨a9, c9, rfl, g1, g2⟩; have HO9 := Lib.hid g1; have HU9 := Lib.hid (HU8.out.trans g2 (fun _ f _ => f)); clear g1 g2)
      | (at_builtin; refine wpList_append_Own rfl (.tmp 79) (.tmp 80) 22 rfl Tryd.underlying22 hi0.out.1 hi0.out.2.1 hi0.out.2.2.1 hi0.out.2.2.2 rfl (by decide) rfl HO9.out rfl (HR.out.keep HU9.out) (by simp) (bvs_one _) HRA.out (by simp only [maxLen]; omega) (by omega) ?_; intro a10 c10 w10 g1 g2 _; rw [← bvs_append] at g1; have HO10 := Lib.hid g1; have HU10 := Lib.hid (HU9.out.trans g2 (fun k hk hlt => by have := hk.1; have := HU8.out.size; omega)); clear g1 g2)
      | (go_at_call 22; refine (unframe_at _ c10 HO10.out.row HXl.out (by omega) (HT.out.upd HU10.out (fun f => f))).mono ?_; rintro e w11 hg; rw [HUb.out] at hg; obtain ⟨ua, uc, ub, ud, rfl, g1, _, _, _, g2, g3⟩ := hg; have HA1 := Lib.hid g1; have HA2 := Lib.hid g2; have HU11 := Lib.hid (HU10.out.trans g3 (fun _ f _ => f)); clear g1 g2 g3)
      | (go_at_call 16; have _t := tok1; refine (bytesEqual_yes _ uc c HA1.out (HP.out.keep HU11.out) rfl).mono ?_; rintro e w' ⟨rfl, rfl⟩; clear tok1)
      | (go_at_call 16; refine (bytesEqual_yes _ ud d HA2.out.row (HR.out.keep HU11.out) rfl).mono ?_; rintro e w' ⟨rfl, rfl⟩))
    all_goals
      go_ret
      exact ⟨rfl, HU11.out⟩
  · have hp' : 65536 < p.length := by omega
    clear hp
    go_enter Tryd.func5, Tryd.ntmps5
    go_wp2_with (first
      | (go_at_call 14; refine (put_nilZ _ _ HZ.out).mono ?_; rintro e w1 hg; rw [HYs.out] at hg; obtain ⟨a1, c1, rfl, g1, g2⟩ := hg; have HO1 := Lib.hid g1; have HU1 := Lib.hid g2; clear g1 g2)
      | (go_at_call 15; refine (wire_Text _ c1 HO1.out.row HO1.out.noneCap s (by omega)).mono ?_; rintro e w2 hg; rw [HTs.out] at hg; obtain ⟨a2, c2, rfl, g1, g2⟩ := hg; have HO2 := Lib.hid g1; have HU2 := Lib.hid (HU1.out.trans g2 (fun _ f _ => f)); clear g1 g2)
      | (at_builtin; refine wpList_append_Own rfl (.tmp 21) (.tmp 22) 22 rfl Tryd.underlying22 hi0.out.1 hi0.out.2.1 hi0.out.2.2.1 hi0.out.2.2.2 rfl (by decide) rfl HO2.out rfl (HR.out.keep HU2.out) (by simp) (bvs_one _) HRA.out (by simp only [maxLen]; omega) (by omega) ?_; intro a3 c3 w3 g1 g2 _; rw [← bvs_append, HL.out] at g1; have HO3 := Lib.hid g1; have HU3 := Lib.hid (HU2.out.trans g2 (fun k hk hlt => by have := hk.1; have := HU1.out.size; omega)); clear g1 g2)
      | (go_at_call 23; refine (over_at _ c3 HO3.out.row HLl.out (by omega)).mono ?_; rintro e w4 ⟨sr, F1, rfl, g1, g2, g3⟩; have H4 := Lib.hid g1; have H2 := Lib.hid g2; have HU4 := Lib.hid (HU3.out.trans g3 (fun _ f _ => f)); clear g1 g2 g3)
      | (go_at_call 24; refine (rd_Uint _ H4.out).mono ?_; rintro e w5 hg; rw [HD0.out, HSc.out] at hg; dsimp only at hg; obtain ⟨rfl, g1, g2⟩ := hg; have H5 := Lib.hid g1; have HU5 := Lib.hid g2; clear g1 g2)
      | (go_at_call 25; refine (rd_Text _ H5.out s.size).mono ?_; rintro e w6 hg; rw [HD1.out, HTx.out] at hg; dsimp only at hg; rw [str_data] at hg; obtain ⟨rfl, g1, g2⟩ := hg; have H6 := Lib.hid g1; have HU6 := Lib.hid g2; clear g1 g2)
      | (go_at_call 26; refine (rd_Left _ H6.out).mono ?_; rintro e w7 hg; rw [HD2.out] at hg; obtain ⟨rfl, g2⟩ := hg; have HU7 := Lib.hid (((HU4.out.trans HU5.out (fun k hk hlt => by have := (H2.out k hk).1; have := HU3.out.size; omega)).trans HU6.out (fun k hk hlt => by have := (H2.out k hk).1; have := HU3.out.size; omega)).trans g2 (fun _ f _ => f)); clear g2)
      | (go_at_call 21; refine (wire_Frame_no _ a c hp').mono ?_; rintro e w8 ⟨rfl, rfl⟩))
    all_goals
      go_ret
      exact ⟨rfl, HU7.out⟩
end Go.Proofs.YtbaombnnagidcaaDoor.wireBack
