/- DiskOf: a disk of an image goes its own way from a copy of it; for every image and every list of calls. -/
import Derived.Test.YtbaombnnagidcaaDoorZL18
import Derived.Test.YtbaombnnagidcaaDoorZL00
import Derived.Lib.SmallJoins
import Derived.Deep.Strs
import Derived.ChangeCalls
import Derived.Test.YtbaombnnagidcaaDoorZL17

namespace Go.Proofs.YtbaombnnagidcaaDoor.diskOf
open Go.RowKit Go.Deep Go.WideShapes Go.ChangeShapes Go.ChangeAt

/-! ### the image's copy -/
set_option maxHeartbeats 1000000 in
theorem plainImage {F E : Nat → Prop} (w : World) {A : Option Addr} {c0 : Nat} {vs : List Value} {B : List (List UInt8)} (hown : Row F w A vs) (hall : All2 (Elem E w) vs B) (hl : B.length * 24 ≤ 140737488355328) (hx : ∀ x ∈ B, x.length ≤ 140737488355328) :
    Calls Tryd.prog 80 #[.slice A B.length c0] w (GotRows w B) := by
  obtain ⟨i0, hi, hz0, hz1, hz2⟩ := info_parts infoBytes
  have hi0 := Lib.hid (And.intro hi (And.intro hz0 (And.intro hz1 hz2)))
  clear hi hz0 hz1 hz2
  have HO := Lib.hid hown
  have HA := Lib.hid hall
  have HX := Lib.hid hx
  have HL := Lib.hid hl
  have hl' : B.length ≤ 9223372036854775807 := by omega
  clear hown hall hx hl
  go_enter Tryd.func80, Tryd.ntmps80
  go_wp2
  go_loopg [3, 8] B.length (fun k v i wr => ∃ j : Nat, j + k = B.length ∧ i = .int .i64 j ∧ ∃ (R' E' : Nat → Prop) (a : Option Addr) (c : Nat) (us : List Value), v = .slice a j c ∧ Rows R' E' wr a j c us (B.take j) ∧ (∀ q, R' q → Fr w wr q) ∧ (∀ q, E' q → Fr w wr q) ∧ Upd Nil w wr)
  case atStart => exact ⟨0, by omega, rfl, Nil, Nil, none, 0, [], rfl, ⟨Own.none_ _ _ _ _, trivial, rfl, fun _ f => f.elim, fun _ f => f.elim, fun _ f => f.elim⟩, fun _ f => f.elim, fun _ f => f.elim, Upd.refl _ _⟩
  case round =>
    obtain ⟨j, hjk, rfl, R', E', a, c, us, rfl, hrows, hR', hE', hup⟩ := hrel
    have hjn : j ≤ B.length := by omega
    have HJ := Lib.hid hjk
    have HRw := Lib.hid hrows
    have HR' := Lib.hid hR'
    have HE' := Lib.hid hE'
    have HU := Lib.hid hup
    clear hjk hrows hR' hE' hup
    by_cases hlt : j < B.length
    · obtain ⟨v, hv, ax, cx, rfl, rx, _⟩ := HA.out.get hlt
      obtain ⟨b, o, rfl, _, hcell0⟩ := rowAt HO.out hv
      have hcell := HU.out.cell hcell0 (fun f => f)
      have HRx := Lib.hid (rx.keep HU.out)
      clear hv hcell0 rx
      go_wp2_with (first
        | (go_at_call 13; refine (bytesClone _ cx HRx.out (HX.out _ (List.getElem_mem hlt))).mono ?_; rintro e w1 ⟨a1, c1, rfl, hown1, hup1⟩; have HO1 := Lib.hid hown1; have HU1 := Lib.hid hup1; clear hown1 hup1)
        | (at_builtin; refine wpList_append_Own rfl _ _ _ rfl Tryd.underlying59 hi0.out.1 hi0.out.2.1 hi0.out.2.2.1 hi0.out.2.2.2 rfl (by decide) rfl ((HRw.out.own.keep HU1.out).alloc _) rfl (one_row w1 _ _) (by simp) (by simp [Value.oneCell']) (by intro h; cases h) (by simp only [maxLen]; omega) (by have := HL.out; omega) ?_
           intro a2 c2 w2 hown2 hup2 hne2; have HO2 := Lib.hid hown2; have HU2 := Lib.hid hup2; clear hown2 hup2 hne2))
      go_roundg (gk - 1)
      case measure => have := HJ.out; omega
      case rel =>
        obtain ⟨f0, f1, f2⟩ := fr_grow HU.out HU1.out HU2.out
        have hrows' := HRw.out.snoc HO1.out HU1.out HO2.out HU2.out
        rw [← List.take_succ_eq_append_getElem hlt] at hrows'
        refine ⟨j + 1, by have := HJ.out; omega, by go_num, _, _, a2, c2, _, rfl, hrows', ?_, ?_, ?_⟩
        · rintro q (h | h)
          · exact f0 q (HR'.out q h)
          · exact f2 q h
        · rintro q (h | h)
          · exact f0 q (HE'.out q h)
          · exact f1 q h
        · exact ((HU.out.trans HU1.out (fun _ f _ => f)).alloc _).trans HU2.out (fun k hk hlt => by have := (HR'.out k hk).1; omega)
    · obtain rfl : j = B.length := by omega
      go_wp2
      go_ret
      have hr := HRw.out
      rw [List.take_length] at hr
      exact ⟨R', E', a, c, us, rfl, hr, HR'.out, HE'.out, HU.out⟩

/-! ### slices.ContainsFunc: is one of another size? -/
theorem isOther (w : World) (a : Option Addr) (n c : Nat) : Calls Tryd.prog 105 #[.slice a n c] w fun e w' => e = .returned (.bool (((n : Int) != 128))) ∧ w = w' := by
  go_enter Tryd.func105, Tryd.ntmps105
  go_wp2
  go_ret
  exact ⟨rfl, rfl⟩

/-- all have the size -/
def AllSize (B : List (List UInt8)) : Prop := ∀ b ∈ B, b.length = 128

set_option maxHeartbeats 1000000 in
theorem indexFunc_no {F E : Nat → Prop} (w : World) {A : Option Addr} {c0 : Nat} {vs : List Value} {B : List (List UInt8)} (hown : Row F w A vs) (hall : All2 (Elem E w) vs B) (hl : B.length ≤ 4096) (hs : AllSize B) :
    Calls Tryd.prog 121 #[.slice A B.length c0, .func (.func 105) #[] #[]] w fun e w' => e = .returned (.int .i64 (-1)) ∧ w = w' := by
  have HO := Lib.hid hown
  have HA := Lib.hid hall
  have HS := Lib.hid hs
  clear hown hall hs
  go_enter Tryd.func121, Tryd.ntmps121
  go_wp2
  go_loopg [8] B.length (fun k i wr => ∃ j : Nat, j + k = B.length ∧ i = .int .i64 j ∧ w = wr)
  case atStart => exact ⟨0, by omega, rfl, rfl⟩
  case round =>
    obtain ⟨j, hjk, rfl, rfl⟩ := hrel
    have hjn : j ≤ B.length := by omega
    have HJ := Lib.hid hjk
    clear hjk
    by_cases hlt : j < B.length
    · obtain ⟨v, hv, ax, cx, rfl, rx, _⟩ := HA.out.get hlt
      obtain ⟨b, o, rfl, _, hcell⟩ := rowAt HO.out hv
      have hsz := HS.out _ (List.getElem_mem hlt)
      have hne : (((B[j].length : Nat) : Int) != 128) = false := by rw [hsz]; rfl
      clear hv rx hsz
      go_wp2_with (go_at_call 105; refine (isOther _ _ _ _).mono ?_; rintro e w' ⟨rfl, rfl⟩)
      go_roundg (gk - 1)
      case measure => have := HJ.out; omega
      case rel => exact ⟨j + 1, by have := HJ.out; omega, by go_num, rfl⟩
    · go_wp2
      go_ret
      exact ⟨rfl, rfl⟩

/-- some place -/
def SomePlace (w : World) (e : Ending) (w' : World) : Prop := ∃ j : Nat, e = .returned (.int .i64 (j : Int)) ∧ w = w'
set_option maxHeartbeats 1000000 in
theorem indexFunc_yes {F E : Nat → Prop} (w : World) {A : Option Addr} {c0 : Nat} {vs : List Value} {B : List (List UInt8)} (hown : Row F w A vs) (hall : All2 (Elem E w) vs B) (hl : B.length ≤ 4096) (hs : ¬ AllSize B) :
    Calls Tryd.prog 121 #[.slice A B.length c0, .func (.func 105) #[] #[]] w (SomePlace w) := by
  have HO := Lib.hid hown
  have HA := Lib.hid hall
  have HS := Lib.hid hs
  clear hown hall hs
  go_enter Tryd.func121, Tryd.ntmps121
  go_wp2
  go_loopg [8] B.length (fun k i wr => ∃ j : Nat, j + k = B.length ∧ i = .int .i64 j ∧ w = wr ∧ ∀ q (hq : q < B.length), q < j → (B[q]).length = 128)
  case atStart => exact ⟨0, by omega, rfl, rfl, fun q hq h => by omega⟩
  case round =>
    obtain ⟨j, hjk, rfl, rfl, hall⟩ := hrel
    have hjn : j ≤ B.length := by omega
    have HJ := Lib.hid hjk
    have HQ := Lib.hid hall
    clear hjk hall
    by_cases hlt : j < B.length
    · obtain ⟨v, hv, ax, cx, rfl, rx, _⟩ := HA.out.get hlt
      obtain ⟨b, o, rfl, _, hcell⟩ := rowAt HO.out hv
      clear hv rx
      by_cases hsz : (B[j]).length = 128
      · have hne : (((B[j].length : Nat) : Int) != 128) = false := by rw [hsz]; rfl
        have HZ := Lib.hid hsz
        clear hsz
        go_wp2_with (go_at_call 105; refine (isOther _ _ _ _).mono ?_; rintro e w' ⟨rfl, rfl⟩)
        go_roundg (gk - 1)
        case measure => have := HJ.out; omega
        case rel =>
          refine ⟨j + 1, by have := HJ.out; omega, by go_num, rfl, fun q hq h => ?_⟩
          by_cases e : q = j
          · subst e
            exact HZ.out
          · exact HQ.out q hq (by omega)
      · have hne : (((B[j].length : Nat) : Int) != 128) = true := by rw [bne_iff_ne]; omega
        clear hsz
        go_wp2_with (go_at_call 105; refine (isOther _ _ _ _).mono ?_; rintro e w' ⟨rfl, rfl⟩)
        go_ret
        exact ⟨j, rfl, rfl⟩
    · refine absurd (fun b hb => ?_) HS.out
      obtain ⟨q, hq, rfl⟩ := List.getElem_of_mem hb
      exact HQ.out q hq (by omega)

theorem containsFunc_no {F E : Nat → Prop} (w : World) {A : Option Addr} {c0 : Nat} {vs : List Value} {B : List (List UInt8)} (hown : Row F w A vs) (hall : All2 (Elem E w) vs B) (hl : B.length ≤ 4096) (hs : AllSize B) :
    Calls Tryd.prog 104 #[.slice A B.length c0, .func (.func 105) #[] #[]] w fun e w' => e = .returned (.bool false) ∧ w = w' := by
  have H := Lib.hid (indexFunc_no (c0 := c0) w hown hall hl hs)
  clear hown hall hs
  go_enter Tryd.func104, Tryd.ntmps104
  go_wp2_with (go_at_call 121; refine H.out.mono ?_; rintro e w' ⟨rfl, rfl⟩)
  go_ret
  exact ⟨rfl, rfl⟩
theorem containsFunc_yes {F E : Nat → Prop} (w : World) {A : Option Addr} {c0 : Nat} {vs : List Value} {B : List (List UInt8)} (hown : Row F w A vs) (hall : All2 (Elem E w) vs B) (hl : B.length ≤ 4096) (hs : ¬ AllSize B) :
    Calls Tryd.prog 104 #[.slice A B.length c0, .func (.func 105) #[] #[]] w fun e w' => e = .returned (.bool true) ∧ w = w' := by
  have H := Lib.hid (indexFunc_yes (c0 := c0) w hown hall hl hs)
  clear hown hall hs
  go_enter Tryd.func104, Tryd.ntmps104
  go_wp2_with (go_at_call 121; refine H.out.mono ?_; rintro e w' ⟨j, rfl, rfl⟩)
  go_ret
  exact ⟨rfl, rfl⟩
set_option maxHeartbeats 1000000 in
theorem platter_image_of {F E : Nat → Prop} (w : World) {s : Nat} {B : List (List UInt8)} {al : Option Addr} {cl : Nat} {vs : List Value} (hc0 : w.cell? ⟨s, 0, none⟩ = some (.slice al B.length cl)) (hown : Row F w al vs) (hall : All2 (Elem E w) vs B) (hl : B.length ≤ 1000000) (hx : ∀ x ∈ B, x.length ≤ 140737488355328) :
    Calls Tryd.prog 106 #[.pointer (some ⟨s, 0, none⟩)] w (GotRows w B) := by
  obtain ⟨i0, hi, hz0, hz1, hz2⟩ := info_parts infoBytes
  have hi0 := Lib.hid (And.intro hi (And.intro hz0 (And.intro hz1 hz2)))
  clear hi hz0 hz1 hz2
  have HO := Lib.hid hown
  have HA := Lib.hid hall
  have HX := Lib.hid hx
  clear hown hall hx
  go_enter Tryd.func106, Tryd.ntmps106
  go_wp2
  go_loopg [3, 11] B.length (fun k v i wr => ∃ j : Nat, j + k = B.length ∧ i = .int .i64 j ∧ ∃ (R' E' : Nat → Prop) (a : Option Addr) (c : Nat) (us : List Value), v = .slice a j c ∧ Rows R' E' wr a j c us (B.take j) ∧ (∀ q, R' q → Fr w wr q) ∧ (∀ q, E' q → Fr w wr q) ∧ Upd Nil w wr)
  case atStart => exact ⟨0, by omega, rfl, Nil, Nil, none, 0, [], rfl, ⟨Own.none_ _ _ _ _, trivial, rfl, fun _ f => f.elim, fun _ f => f.elim, fun _ f => f.elim⟩, fun _ f => f.elim, fun _ f => f.elim, Upd.refl _ _⟩
  case round =>
    obtain ⟨j, hjk, rfl, R', E', a, c, us, rfl, hrows, hR', hE', hup⟩ := hrel
    have hjn : j ≤ B.length := by omega
    have HJ := Lib.hid hjk
    have HRw := Lib.hid hrows
    have HR' := Lib.hid hR'
    have HE' := Lib.hid hE'
    have HU := Lib.hid hup
    clear hjk hrows hR' hE' hup
    by_cases hlt : j < B.length
    · obtain ⟨v, hv, ax, cx, rfl, rx, _⟩ := HA.out.get hlt
      obtain ⟨b, o, rfl, _, hcell0⟩ := rowAt HO.out hv
      have hcell := HU.out.cell hcell0 (fun f => f)
      have HRx := Lib.hid (rx.keep HU.out)
      clear hv hcell0 rx
      go_wp2_with (first
        | (go_at_call 13; refine (bytesClone _ cx HRx.out (HX.out _ (List.getElem_mem hlt))).mono ?_; rintro e w1 ⟨a1, c1, rfl, hown1, hup1⟩; have HO1 := Lib.hid hown1; have HU1 := Lib.hid hup1; clear hown1 hup1)
        | (at_builtin; refine wpList_append_Own rfl _ _ _ rfl Tryd.underlying59 hi0.out.1 hi0.out.2.1 hi0.out.2.2.1 hi0.out.2.2.2 rfl (by decide) rfl ((HRw.out.own.keep HU1.out).alloc _) rfl (one_row w1 _ _) (by simp) (by simp [Value.oneCell']) (by intro h; cases h) (by simp only [maxLen]; omega) (by omega) ?_
           intro a2 c2 w2 hown2 hup2 hne2; have HO2 := Lib.hid hown2; have HU2 := Lib.hid hup2; clear hown2 hup2 hne2))
      go_roundg (gk - 1)
      case measure => have := HJ.out; omega
      case rel =>
        obtain ⟨f0, f1, f2⟩ := fr_grow HU.out HU1.out HU2.out
        have hrows' := HRw.out.snoc HO1.out HU1.out HO2.out HU2.out
        rw [← List.take_succ_eq_append_getElem hlt] at hrows'
        refine ⟨j + 1, by have := HJ.out; omega, by go_num, _, _, a2, c2, _, rfl, hrows', ?_, ?_, ?_⟩
        · rintro q (h | h)
          · exact f0 q (HR'.out q h)
          · exact f2 q h
        · rintro q (h | h)
          · exact f0 q (HE'.out q h)
          · exact f1 q h
        · exact ((HU.out.trans HU1.out (fun _ f _ => f)).alloc _).trans HU2.out (fun k hk hlt => by have := (HR'.out k hk).1; omega)
    · obtain rfl : j = B.length := by omega
      go_wp2
      go_ret
      have hr := HRw.out
      rw [List.take_length] at hr
      exact ⟨R', E', a, c, us, rfl, hr, HR'.out, HE'.out, HU.out⟩

theorem disk_Of_no (w : World) {A : Option Addr} {n c0 : Nat} (hn : n < 1 ∨ 4096 < n) :
    Calls Tryd.prog 79 #[.slice A n c0] w fun e w' => e = .returned (.tuple #[.pointer none, .int .i64 1]) ∧ w = w' := by
  by_cases h1 : n < 1
  · clear hn
    go_enter Tryd.func79, Tryd.ntmps79
    go_wp2
    go_ret2
    exact ⟨rfl, rfl⟩
  · have h2 : 4096 < n := by omega
    clear hn
    go_enter Tryd.func79, Tryd.ntmps79
    go_wp2
    go_ret2
    exact ⟨rfl, rfl⟩
theorem disk_Of_other {F E : Nat → Prop} (w : World) {A : Option Addr} {c0 : Nat} {vs : List Value} {B : List (List UInt8)} (hown : Row F w A vs) (hall : All2 (Elem E w) vs B) (h1 : 1 ≤ B.length) (h2 : B.length ≤ 4096) (hs : ¬ AllSize B) :
    Calls Tryd.prog 79 #[.slice A B.length c0] w fun e w' => e = .returned (.tuple #[.pointer none, .int .i64 1]) ∧ w = w' := by
  have H := Lib.hid (containsFunc_yes (c0 := c0) w hown hall h2 hs)
  clear hown hall hs
  go_enter Tryd.func79, Tryd.ntmps79
  go_wp2_with (go_at_call 104; refine H.out.mono ?_; rintro e w' ⟨rfl, rfl⟩)
  go_ret2
  exact ⟨rfl, rfl⟩
set_option maxHeartbeats 1000000 in
theorem disk_Of_yes {F E : Nat → Prop} (w : World) {A : Option Addr} {c0 : Nat} {vs : List Value} {B : List (List UInt8)} (hown : Row F w A vs) (hall : All2 (Elem E w) vs B) (h1 : 1 ≤ B.length) (h2 : B.length ≤ 4096) (hs : AllSize B) :
    Calls Tryd.prog 79 #[.slice A B.length c0] w (GotDisk 76 w B) := by
  have H := Lib.hid (containsFunc_no (c0 := c0) w hown hall h2 hs)
  have al : Upd Nil w (w.alloc (.cells #[.slice A B.length c0] 73)) := (Upd.refl Nil w).alloc _
  have HI := Lib.hid (platter_image_of (w.alloc (.cells #[.slice A B.length c0] 73)) (s := w.heap.size) ((Blk.new w 73 #[.slice A B.length c0]).cell 0) (hown.keep al) (hall.mono (fun v x h => h.keep al)) (by omega) (fun x hx => by rw [hs x hx]; decide))
  have HAl := Lib.hid al
  clear hown hall hs al
  go_enter Tryd.func79, Tryd.ntmps79
  go_wp2_with (first
    | (go_at_call 104; refine H.out.mono ?_; rintro e w' ⟨rfl, rfl⟩)
    | (go_at_call 106; refine HI.out.mono ?_; rintro e w1 ⟨R1, E1, a1, c1, v1, rfl, g1, g2, g3, g4⟩; have H1 := Lib.hid g1; have H2 := Lib.hid g2; have H3 := Lib.hid g3; have H4 := Lib.hid g4; clear g1 g2 g3 g4))
  go_ret2
  have hcp := copy_end (t := 76) (P := []) H1.out H2.out H3.out H4.out (SRows.none_ w1) (fun _ f => f.elim) (fun _ f => f.elim) (Upd.refl _ _)
  exact ⟨_, _, rfl, hcp, fun k hk => ⟨by have := hk.1; simp only [World.size_alloc] at this; omega, hk.2⟩, (HAl.out.trans H4.out (fun _ f _ => f)).alloc _⟩

theorem x_Of_no (w : World) {A : Option Addr} {n c0 : Nat} (hn : n < 1 ∨ 4096 < n) :
    Calls Tryd.prog 82 #[.slice A n c0] w fun e w' => e = .returned (.tuple #[.pointer none, .int .i64 1]) ∧ w = w' := by
  by_cases h1 : n < 1
  · clear hn
    go_enter Tryd.func82, Tryd.ntmps82
    go_wp2
    go_ret2
    exact ⟨rfl, rfl⟩
  · have h2 : 4096 < n := by omega
    clear hn
    go_enter Tryd.func82, Tryd.ntmps82
    go_wp2
    go_ret2
    exact ⟨rfl, rfl⟩

/-- what Of of a list of sectors answers -/
def OfGot (t : TypeId) (w : World) (B : List (List UInt8)) (e : Ending) (w' : World) : Prop := (AllSize B → GotDisk t w B e w') ∧ (¬ AllSize B → e = .returned (.tuple #[.pointer none, .int .i64 1]) ∧ Upd Nil w w')

set_option maxRecDepth 100000 in
set_option maxHeartbeats 2000000 in
theorem x_Of {F0 E0 : Nat → Prop} (w : World) {A : Option Addr} {c0 : Nat} {vs : List Value} {B : List (List UInt8)} (hown : Row F0 w A vs) (hall : All2 (Elem E0 w) vs B) (hn1 : 1 ≤ B.length) (hn2 : B.length ≤ 4096) :
    Calls Tryd.prog 82 #[.slice A B.length c0] w (OfGot 155 w B) := by
  have HRow := Lib.hid hown
  have HAll := Lib.hid hall
  obtain ⟨i0, hi, hz0, hz1, hz2⟩ := info_parts infoBytes
  have hi0 := Lib.hid (And.intro hi (And.intro hz0 (And.intro hz1 hz2)))
  clear hi hz0 hz1 hz2 hown hall
  go_enter Tryd.func82, Tryd.ntmps82
  go_wp2
  go_loopg [19] B.length (fun k i wr => ∃ j : Nat, j + k = B.length ∧ i = .int .i64 j ∧ (∀ q (hq : q < B.length), q < j → (B[q]).length = 128) ∧ ∃ R E F : Nat → Prop, DParts 155 F R Nil E wr w.heap.size (B.take j) [] ∧ (∀ k, F k → Fr w wr k) ∧ Upd Nil w wr)
  case atStart =>
    refine ⟨0, by omega, rfl, fun q hq h => by omega, Nil, Nil, _, DParts.new w (fun k hk => hk.elim), ?_, (Upd.refl Nil w).alloc _⟩
    rintro k (hk | rfl)
    · exact hk.elim
    · exact ⟨Nat.le_refl _, by simp⟩
  case round =>
    obtain ⟨j, hjk, rfl, hsz, R, E, F, hparts, hF, hup⟩ := hrel
    have hjn : j ≤ B.length := by omega
    have hlj : (B.take j).length = j := by rw [List.length_take]; omega
    have HJ := Lib.hid hjk
    have HP := Lib.hid hparts
    have HF := Lib.hid hF
    have HU := Lib.hid hup
    have HSz := Lib.hid hsz
    have HLj := Lib.hid hlj
    clear hjk hF hup hsz hlj
    by_cases hlt : j < B.length
    · obtain ⟨v, hv, ax, cx, rfl, rx, nx, _⟩ := HAll.out.get hlt
      obtain ⟨b, o, rfl, _, hcell0⟩ := rowAt HRow.out hv
      have hcell := HU.out.cell hcell0 (fun f => f)
      obtain ⟨x, hx⟩ : ∃ x, B[j] = x := ⟨_, rfl⟩
      rw [hx] at hcell rx
      have HX := Lib.hid hx
      have HRx := Lib.hid (rx.keep HU.out)
      have HNx := Lib.hid nx
      have HTk := Lib.hid (show B.take (j + 1) = B.take j ++ [x] by rw [List.take_succ_eq_append_getElem hlt, hx])
      clear hv hcell0 rx nx hx
      obtain ⟨a, c, us, p, d, vs', hFs, hR, hQ, hE, hb, hown, hq, hvs, hsent⟩ := id hparts
      rw [HLj.out] at hb hown
      have hc00 : wr.cell? ⟨w.heap.size, 0, none⟩ = some (.slice a j c) := hb.cell 0
      have hlt0 : w.heap.size < wr.heap.size := hb.lt
      have HB := Lib.hid hb
      have HO := Lib.hid hown
      have HV := Lib.hid hvs
      have HR := Lib.hid hR
      have HC0 := Lib.hid hc00
      clear hR hQ hE hb hown hq hvs hsent hFs hparts
      by_cases h128 : x.length = 128
      · have hne : ((x.length : Int) != 128) = false := by rw [h128]; rfl
        have HX128 := Lib.hid h128
        clear h128
        go_wp2
        go_region_law (first
          | (go_simp; go_at_call 108; refine (copied02 _ cx (HRx.out.drew) HNx.out (by rw [HX128.out]; decide)).mono ?_; rintro e w1 ⟨a1, c1, rfl, hown1, hup1⟩
             have hup1 := hup1.ofDrew
             have hown1 : Own (Fr wr w1) w1 5 1 a1 x.length c1 (bvs x) := hown1
             have hd0 := hup1.cell HC0.out (fun f => f); have hlt1 : w.heap.size < w1.heap.size := World.block_lt_of_cell? w1 _ hd0
             have HO1 := Lib.hid hown1; have HU1 := Lib.hid hup1; clear hown1 hup1)
          | (refine step_append_Own rfl (.tmp 30) (.tmp 33) 59 rfl Tryd.underlying59 hi0.out.1 hi0.out.2.1 hi0.out.2.2.1 hi0.out.2.2.2 rfl (by decide) rfl ((HO.out.keep HU1.out).alloc _) rfl (one_row w1 _ _) (by simp) (by simp [Value.oneCell']) (by intro h; cases h) (by simp only [maxLen]; omega) (by omega) ?_
             intro a2 c2 w2 hown2 hup2 hne2
             have hb2 := ((HB.out.upd HU1.out (fun f => f)).alloc (.cells #[.slice a1 x.length c1] 22)).upd hup2 (fun f => (HR.out _ f).2.1 rfl)
             have HO2 := Lib.hid hown2; have HU2 := Lib.hid hup2; clear hown2 hup2 hne2
             have he0 := hb2.cell 0; have hf0 := hb2.frozen 0
             clear hb2))
        all_goals go_wp2
        all_goals go_roundg (gk - 1)
        all_goals first
          | (have := HJ.out; omega)
          | (have hz0 := HU.out.size
             have hz1 := HU1.out.size
             have hz2 := HU2.out.size
             simp only [World.size_alloc] at hz2
             have hp1 := (HP.out.keep HU1.out).more (G := Fr wr w1) (fun k hk => by
               obtain ⟨_, _, _, _, _, _, _, h3, h4, h5, h6, _⟩ := HP.out
               have hk1 := hk.1
               have := h6.lt
               exact ⟨by omega, fun r => by have := (h3 k r).2.2; omega, fun q => q, hk.2⟩)
             have hel : Elem (fun k => E k ∨ Fr wr w1 k) w1 (.slice a1 x.length c1) x := HO1.out.elem.mono (fun k h => .inr h)
             have hc1 : w1.cell? ⟨w.heap.size, 0, none⟩ = some (.slice a (B.take j).length c) := by rw [HLj.out]; exact HU1.out.cell HC0.out (fun f => f)
             obtain ⟨hp, hu⟩ := sect_end (o := .cells #[.slice a1 x.length c1] 22) hp1 hc1 (HV.out.mono (fun v y h => (h.keep HU1.out).mono (fun k h => Or.inl (b := Fr wr w1 k) h))) hel (by rw [HLj.out]; exact HO2.out) HU2.out
             rw [← HTk.out, HLj.out] at hp
             rw [HLj.out] at hu
             refine ⟨j + 1, by have := HJ.out; omega, by go_num, fun q hq h => ?_, _, _, _, hp, ?_, (HU.out.trans HU1.out (fun _ f _ => f)).trans hu (fun k hk hlt => ?_)⟩
             · by_cases e : q = j
               · subst e
                 rw [HX.out]
                 exact HX128.out
               · exact HSz.out q hq (by omega)
             · rintro k ((h | h) | ⟨e1, e2⟩)
               · have := HF.out k h
                 exact ⟨this.1, by have := this.2; simp; omega⟩
               · exact ⟨by have := h.1; omega, by have := h.2; simp; omega⟩
               · have e1' := e1
                 simp only [World.size_alloc] at e1'
                 exact ⟨by omega, by simpa using e2⟩
             · rcases hk with h | rfl
               · have := (HF.out k (HR.out k h).1).1
                 omega
               · omega)
      · have hne : ((x.length : Int) != 128) = true := by rw [bne_iff_ne]; omega
        have HN128 := Lib.hid h128
        clear h128
        go_wp2
        go_ret2
        refine ⟨fun h => absurd (h _ (List.getElem_mem hlt)) (by rw [HX.out]; exact HN128.out), fun _ => ⟨rfl, HU.out⟩⟩
    · obtain rfl : j = B.length := by omega
      have hp := HP.out
      rw [List.take_length] at hp
      have HP2 := Lib.hid hp
      clear hp hparts
      go_wp2
      go_ret2
      refine ⟨fun _ => ⟨_, F, rfl, HP2.out.rep, HF.out, HU.out⟩, fun h => absurd (fun b hb => ?_) h⟩
      obtain ⟨q, hq, rfl⟩ := List.getElem_of_mem hb
      exact HSz.out q hq hq
end Go.Proofs.YtbaombnnagidcaaDoor.diskOf

namespace Go.Proofs.YtbaombnnagidcaaDoor.diskOf
open Go.RowKit Go.Deep Go.WideShapes Go.ChangeShapes Go.ChangeAt

/-- both disks, new -/
def GotPair (w : World) (B : List (List UInt8)) (e : Ending) (w' : World) : Prop :=
  ∃ s1 s2 F1 F2, e = .returned (.tuple #[.pointer (some ⟨s1, 0, none⟩), .pointer (some ⟨s2, 0, none⟩), .bool true]) ∧ Pair w' s1 s2 F1 F2 B [] B [] ∧ (∀ k, F1 k → Fr w w' k) ∧ (∀ k, F2 k → Fr w w' k) ∧ Upd Nil w w'

theorem pair_new {w w1 w2 : World} {s1 s2 : Nat} {F1 F2 : Nat → Prop} {B : List (List UInt8)} (h1 : DiskRep F1 w1 s1 B []) (f1 : ∀ k, F1 k → Fr w w1 k) (u1 : Upd Nil w w1) (h2 : XRep F2 w2 s2 B []) (f2 : ∀ k, F2 k → Fr w1 w2 k) (u2 : Upd Nil w1 w2) :
    Pair w2 s1 s2 F1 F2 B [] B [] ∧ (∀ k, F1 k → Fr w w2 k) ∧ (∀ k, F2 k → Fr w w2 k) ∧ Upd Nil w w2 := by
  have z1 := u1.size
  have z2 := u2.size
  refine ⟨⟨h1.upd u2 (fun _ _ f => f), h2, fun k hk => by have := (f1 k hk).2; omega, fun k hk => (f2 k hk).2, fun k hk h => by have := (f1 k hk).2; have := (f2 k h).1; omega⟩, fun k hk => ⟨(f1 k hk).1, by have := (f1 k hk).2; omega⟩, fun k hk => ⟨by have := (f2 k hk).1; omega, (f2 k hk).2⟩, u1.trans u2 (fun _ f _ => f)⟩

def Sound (B : List (List UInt8)) : Prop := 1 ≤ B.length ∧ B.length ≤ 4096 ∧ AllSize B

theorem disks_yes {F E : Nat → Prop} (w : World) {A : Option Addr} {c0 : Nat} {vs : List Value} {B : List (List UInt8)} (hown : Row F w A vs) (hall : All2 (Elem E w) vs B) (hs : Sound B) :
    Calls Tryd.prog 49 #[.slice A B.length c0] w (GotPair w B) := by
  obtain ⟨s1, s2, s3⟩ := hs
  have HR := Lib.hid hown
  have HA := Lib.hid hall
  have HS := Lib.hid s3
  clear hown hall s3
  go_enter Tryd.func49, Tryd.ntmps49
  go_wp2_with (first
    | (go_at_call 80; refine (plainImage _ HR.out HA.out (by omega) (fun x hx => by rw [HS.out x hx]; decide)).mono ?_; rintro e w1 ⟨R1, E1, a1, c1, v1, rfl, g1, g2, g3, g4⟩; have H1 := Lib.hid g1; have H4 := Lib.hid g4; clear g1 g2 g3 g4)
    | (go_at_call 79; refine (disk_Of_yes _ H1.out.own.row H1.out.all s1 s2 HS.out).mono ?_; rintro e w2 ⟨t1, F1, rfl, g1, g2, g3⟩; have J1 := Lib.hid g1; have J2 := Lib.hid g2; have J3 := Lib.hid g3; clear g1 g2 g3)
    | (go_at_call 82; refine (x_Of _ ((HR.out.keep H4.out).keep J3.out) (HA.out.mono (fun v x h => (h.keep H4.out).keep J3.out)) s1 s2).mono ?_; rintro e w3 hx; obtain ⟨t2, F2, rfl, g1, g2, g3⟩ := hx.1 HS.out; have J4 := Lib.hid g1; have J5 := Lib.hid g2; have J6 := Lib.hid g3; clear g1 g2 g3 hx))
  go_ret3
  obtain ⟨p1, p2, p3, p4⟩ := pair_new J1.out (fun k hk => ⟨by have := (J2.out k hk).1; have := H4.out.size; omega, (J2.out k hk).2⟩) (H4.out.trans J3.out (fun _ f _ => f)) J4.out J5.out J6.out
  exact ⟨t1, t2, F1, F2, rfl, p1, p2, p3, p4⟩

/-- none of both -/
def NoPair (w : World) (e : Ending) (w' : World) : Prop := e = .returned (.tuple #[.pointer none, .pointer none, .bool true]) ∧ Upd Nil w w'
theorem disks_no {F E : Nat → Prop} (w : World) {A : Option Addr} {c0 : Nat} {vs : List Value} {B : List (List UInt8)} (hown : Row F w A vs) (hall : All2 (Elem E w) vs B) (hl : B.length * 24 ≤ 140737488355328) (hx : ∀ x ∈ B, x.length ≤ 140737488355328) (hs : ¬ Sound B) :
    Calls Tryd.prog 49 #[.slice A B.length c0] w (NoPair w) := by
  have HR := Lib.hid hown
  have HA := Lib.hid hall
  have HX := Lib.hid hx
  clear hown hall hx
  by_cases hn : B.length < 1 ∨ 4096 < B.length
  · have HN := Lib.hid hn
    clear hn hs
    go_enter Tryd.func49, Tryd.ntmps49
    go_wp2_with (first
      | (go_at_call 80; refine (plainImage _ HR.out HA.out hl HX.out).mono ?_; rintro e w1 ⟨R1, E1, a1, c1, v1, rfl, g1, g2, g3, g4⟩; have H4 := Lib.hid g4; clear g1 g2 g3 g4)
      | (go_at_call 79; refine (disk_Of_no _ HN.out).mono ?_; rintro e w' ⟨rfl, rfl⟩)
      | (go_at_call 82; refine (x_Of_no _ HN.out).mono ?_; rintro e w' ⟨rfl, rfl⟩))
    go_ret3
    exact ⟨rfl, H4.out⟩
  · have h1 : 1 ≤ B.length := by omega
    have h2 : B.length ≤ 4096 := by omega
    have hn : ¬ AllSize B := fun h => hs ⟨h1, h2, h⟩
    have HN := Lib.hid hn
    clear hn hs
    go_enter Tryd.func49, Tryd.ntmps49
    go_wp2_with (first
      | (go_at_call 80; refine (plainImage _ HR.out HA.out hl HX.out).mono ?_; rintro e w1 ⟨R1, E1, a1, c1, v1, rfl, g1, g2, g3, g4⟩; have H1 := Lib.hid g1; have H4 := Lib.hid g4; clear g1 g2 g3 g4)
      | (go_at_call 79; refine (disk_Of_other _ H1.out.own.row H1.out.all h1 h2 HN.out).mono ?_; rintro e w' ⟨rfl, rfl⟩)
      | (go_at_call 82; refine (x_Of _ (HR.out.keep H4.out) (HA.out.mono (fun v x h => h.keep H4.out)) h1 h2).mono ?_; rintro e w3 hx; obtain ⟨rfl, g⟩ := hx.2 HN.out; have H5 := Lib.hid g; clear hx g))
    go_ret3
    exact ⟨rfl, H4.out.trans H5.out (fun _ f _ => f)⟩

/-- the copies, a pair of their own -/
theorem pair_copy {wr w3 w4 : World} {s3 s4 : Nat} {F3 F4 : Nat → Prop} {B : List (List UInt8)} {P : List Snt} (h3 : DiskRep F3 w3 s3 B P) (f3 : ∀ k, F3 k → Fr wr w3 k) (h4 : XRep F4 w4 s4 B P) (f4 : ∀ k, F4 k → Fr w3 w4 k) (u4 : Upd Nil w3 w4) :
    Pair w4 s3 s4 F3 F4 B P B P :=
  ⟨h3.upd u4 (fun _ _ f => f), h4, fun k hk => by have := (f3 k hk).2; have := u4.size; omega, fun k hk => (f4 k hk).2, fun k hk h => by have := (f3 k hk).2; have := (f4 k h).1; omega⟩


end Go.Proofs.YtbaombnnagidcaaDoor.diskOf

namespace Go.Proofs.YtbaombnnagidcaaDoor
open Go.RowKit Go.Deep Go.WideShapes Go.ChangeShapes

/-- the blocks of w -/
def Old (w : World) : Nat → Prop := fun k => k < w.heap.size

/-- The form's own reach, of one datum: each string, slice and map in it. -/
def Fit {H : Type} (P : Program) (t : TypeId) (d : DataW H) : Prop := ∀ n ∈ d.weights P t, n ≤ reachBytes
theorem Fit.ofEach {H : Type} {P : Program} {ts : List TypeId} {ds : List (DataW H)} (h : (DataW.weightsEach P ts ds).all (· ≤ reachBytes) = true) {j : Nat} {t : TypeId} {d : DataW H} (ht : ts[j]? = some t) (hd : ds[j]? = some d) : Fit P t d := by
  intro n hn
  have := List.all_eq_true.1 h n (DataW.weights_mem_each ht hd n hn)
  simpa using this
theorem weights_all {H : Type} {P : Program} {e : TypeId} : ∀ {l : List (DataW H)} {d : DataW H}, d ∈ l → ∀ n ∈ d.weights P e, n ∈ DataW.weightsAll P e l
  | x :: l, d, hd, n, hn => by
    simp only [DataW.weightsAll, List.mem_append]
    rcases List.mem_cons.1 hd with rfl | hd
    · exact .inl hn
    · exact .inr (weights_all hd n hn)
theorem Fit.slice {H : Type} {P : Program} {t e : TypeId} {es sp : List (DataW H)} (h : Fit P t (.slice es sp)) (ht : P.underlying t = some (.slice e)) : (es.length + sp.length) * P.bytesOf e ≤ reachBytes ∧ ∀ d ∈ es, Fit P e d := by
  refine ⟨h _ (by simp [DataW.weights, ht]), fun d hd n hn => h n ?_⟩
  simp only [DataW.weights, ht, List.mem_cons, List.mem_append]
  exact .inr (.inl (weights_all hd n hn))
theorem Fit.struct {H : Type} {P : Program} {t : TypeId} {fs : Array Field} {parts : List (DataW H)} (h : Fit P t (.agg parts)) (ht : P.underlying t = some (.struct fs)) {j : Nat} {f : Field} {d : DataW H} (hf : fs.toList[j]? = some f) (hd : parts[j]? = some d) : Fit P f.type d := by
  intro n hn
  refine h n ?_
  simp only [DataW.weights, ht]
  exact DataW.weights_mem_each (ts := fs.toList.map (·.type)) (by simp [hf]) hd n hn

section
variable {H : Type} {enc : TypeId × Value → H} {P : Program} {w : World} {spare : Nat → Bool} {held : Bool}

theorem plain_of_cell {a : Addr} {v : Value} (h : w.cell? a = some v) : a = ⟨a.block, a.off, none⟩ := by
  unfold World.cell? at h
  split at h
  · split at h
    · cases h
    · rename_i hs
      cases a with
      | mk b o s => cases s with
        | none => rfl
        | some _ => simp at hs
  · cases h

/-- an address at which a first element lies is plain -/
theorem plain_base {base : Nat} {a : Addr} {k : Nat} {cs : List Value} (hk : 0 < k) (h : w.cells? base (a.add (0 * k)) k = some cs) : ∃ b o, a = ⟨b, o, none⟩ := by
  obtain ⟨_, hl, hc⟩ := World.cells?_some h
  have h0 := hc 0 hk
  rw [Nat.zero_mul] at h0
  have e : (a.add 0).add 0 = a := by simp [Addr.add]
  rw [e, List.getElem?_eq_getElem (by omega)] at h0
  exact ⟨a.block, a.off, plain_of_cell h0⟩

theorem range_get {α : Type} (f : Nat → α) {n i : Nat} {u : α} (h : ((List.range n).map f)[i]? = some u) : i < n ∧ u = f i := by
  have hi : i < n := by
    have := (List.getElem?_eq_some_iff.1 h).1
    simpa using this
  refine ⟨hi, ?_⟩
  simp [hi] at h
  exact h.symm

theorem All2.ofRange {α : Type} {R : Value → α → Prop} (f : Nat → Value) (g : Nat → α) : ∀ {n : Nat}, (∀ i, i < n → R (f i) (g i)) → All2 R ((List.range n).map f) ((List.range n).map g)
  | 0, _ => trivial
  | n + 1, h => by
    rw [List.range_succ, List.map_append, List.map_append]
    exact (All2.ofRange f g (fun i hi => h i (by omega))).append ⟨h n (by omega), trivial⟩

/-- a slice whose elements are one cell each, by an index -/
theorem open_cells {t e : TypeId} {fuel : Nat} {cs : List Value} {x : DataW H × List MemPlace} (ht : P.underlying t = some (.slice e)) (hc : P.cellsOf e = 1) (h : DataW.trod enc P w 0 spare held fuel t cs = some x) :
    ∃ (a : Option Addr) (n c m : Nat) (V : Nat → Value) (D : Nat → DataW H), cs = [.slice a n c] ∧ n ≤ c ∧ c ≤ maxLen ∧ (a = none → c = 0) ∧ Row (Old w) w a ((List.range n).map V) ∧
      (∀ i, i < n → ∃ pl, DataW.trod enc P w 0 spare held m e [V i] = some (D i, pl)) ∧ (x.1 = .nil ∧ n = 0 ∨ ∃ sp, x.1 = .slice ((List.range n).map D) sp) := by
  rcases open_slice1 ht hc h with ⟨rfl, rfl⟩ | ⟨a, n, c, m, k, V, D, Pl, rfl, _, hl, hm, hmm, rfl, hx⟩
  · exact ⟨none, 0, 0, 0, fun _ => undef, fun _ => .nil, rfl, Nat.le_refl _, Nat.zero_le _, fun _ => rfl, Row.nil _ _ _, fun i hi => absurd hi (Nat.not_lt_zero i), .inl ⟨rfl, rfl⟩⟩
  · have hnm : n ≤ m := by rw [hmm]; split <;> omega
    refine ⟨some a, n, c, k, V, D, rfl, hl, hm, (fun h => by cases h), fun hn => ?_, fun i hi => ⟨_, (hx i (by omega)).2⟩, .inr ⟨_, rfl⟩⟩
    have hpos : 0 < n := by
      rcases Nat.eq_zero_or_pos n with h0 | h0
      · subst h0
        exact absurd rfl hn
      · exact h0
    have h0 := (hx 0 (by omega)).1
    have ha0 : a.add 0 = a := by cases a; simp [Addr.add]
    rw [ha0] at h0
    have hp := plain_of_cell h0
    refine ⟨a.block, a.off, by rw [← hp], World.block_lt_of_cell? w a h0, fun i u hu => ?_⟩
    obtain ⟨hi, rfl⟩ := range_get V hu
    have := (hx i (by omega)).1
    rw [hp, Addr.add_lit] at this
    exact this

theorem trod_int_inv {t : TypeId} {k : IntKind} {fuel : Nat} {v : Value} {d : DataW H} {pl : List MemPlace} (ht : P.underlying t = some (.int k)) (h : DataW.trod enc P w 0 spare held fuel t [v] = some (d, pl)) :
    ∃ n, v = .int k n ∧ (Lit.int k n).wf = true ∧ d = .lit (.int k n) := by
  obtain ⟨n, h1, h2, h3⟩ := DataW.trod_int ht h
  injection h1 with h1
  injection h2 with h2
  exact ⟨n, h1, h3, h2⟩

theorem u8_of_wf {n : Int} (h : (Lit.int .u8 n).wf = true) : n = ((UInt8.ofNat n.toNat).toNat : Int) := by
  simp only [Lit.wf, Bool.and_eq_true, decide_eq_true_eq] at h
  have h1 : (0 : Int) ≤ n := h.1
  have h2 : n ≤ 255 := h.2
  simp
  omega

/-- a slice of bytes -/
theorem open_bytes {t e : TypeId} {fuel : Nat} {cs : List Value} {x : DataW H × List MemPlace} (ht : P.underlying t = some (.slice e)) (he : P.underlying e = some (.int .u8)) (hc : P.cellsOf e = 1)
    (h : DataW.trod enc P w 0 spare held fuel t cs = some x) (hb : P.bytesOf e = 1) (hfit : Fit P t x.1) : ∃ v xs, cs = [v] ∧ Elem (Old w) w v xs ∧ xs.length ≤ reachBytes ∧ (x.1 = .nil ∧ xs = [] ∨ ∃ es sp, x.1 = .slice es sp ∧ es.length = xs.length) := by
  obtain ⟨a, n, c, m, V, D, rfl, h1, h2, h3, h4, h5, h6⟩ := open_cells ht hc h
  have each : ∀ i, i < n → ∃ b : UInt8, V i = bv b := fun i hi => by
    obtain ⟨pl, hp⟩ := h5 i hi
    obtain ⟨z, hz, hw, _⟩ := trod_int_inv he hp
    refine ⟨UInt8.ofNat z.toNat, ?_⟩
    rw [hz, bv, ← u8_of_wf hw]
  obtain ⟨f, hf⟩ := choose_lt each
  have hl : ((List.range n).map f).length = n := by simp
  have hbv : bvs ((List.range n).map f) = (List.range n).map V := by
    rw [bvs, List.map_map]
    exact List.map_congr_left fun i hi => (hf i (List.mem_range.1 hi)).symm
  refine ⟨_, (List.range n).map f, rfl, ⟨a, c, by rw [hl], by rw [hbv]; exact h4, h3, by rw [hl]; exact h1, h2⟩, ?_, ?_⟩
  · rw [hl]
    rcases h6 with ⟨_, rfl⟩ | ⟨sp, h6⟩
    · exact Nat.zero_le _
    · rw [h6] at hfit
      have := (hfit.slice ht).1
      rw [hb, Nat.mul_one] at this
      simp at this
      omega
  rcases h6 with ⟨h6, rfl⟩ | ⟨sp, h6⟩
  · exact .inl ⟨h6, rfl⟩
  · exact .inr ⟨_, sp, h6, by simp⟩

/-- a slice of slices of bytes -/
theorem open_rows {t e q : TypeId} {fuel : Nat} {cs : List Value} {x : DataW H × List MemPlace} (ht : P.underlying t = some (.slice e)) (he : P.underlying e = some (.slice q)) (hq : P.underlying q = some (.int .u8)) (hc : P.cellsOf e = 1) (hcq : P.cellsOf q = 1)
    (h : DataW.trod enc P w 0 spare held fuel t cs = some x) (hb : P.bytesOf q = 1) (hfit : Fit P t x.1) :
    ∃ a n c vs xss, cs = [.slice a n c] ∧ n ≤ c ∧ c ≤ maxLen ∧ (a = none → c = 0) ∧ Row (Old w) w a vs ∧ All2 (Elem (Old w) w) vs xss ∧ xss.length = n ∧ n * P.bytesOf e ≤ reachBytes ∧ ∀ xs ∈ xss, xs.length ≤ reachBytes := by
  obtain ⟨a, n, c, m, V, D, rfl, h1, h2, h3, h4, h5, h6⟩ := open_cells ht hc h
  have hf : n * P.bytesOf e ≤ reachBytes ∧ ∀ i, i < n → Fit P e (D i) := by
    rcases h6 with ⟨_, rfl⟩ | ⟨sp, h6⟩
    · exact ⟨by rw [Nat.zero_mul]; exact Nat.zero_le _, fun i hi => absurd hi (Nat.not_lt_zero i)⟩
    · rw [h6] at hfit
      obtain ⟨g1, g2⟩ := hfit.slice ht
      refine ⟨Nat.le_trans (Nat.mul_le_mul_right _ (by simp)) g1, fun i hi => g2 _ (List.mem_map.2 ⟨i, List.mem_range.2 hi, rfl⟩)⟩
  have each : ∀ i, i < n → ∃ xs, Elem (Old w) w (V i) xs ∧ xs.length ≤ reachBytes := fun i hi => by
    obtain ⟨pl, hp⟩ := h5 i hi
    obtain ⟨v, xs, hv, hel, hx, _⟩ := open_bytes he hq hcq hp hb (hf.2 i hi)
    injection hv with hv
    exact ⟨xs, hv ▸ hel, hx⟩
  obtain ⟨f, hff⟩ := choose_lt each
  refine ⟨a, n, c, _, (List.range n).map f, rfl, h1, h2, h3, h4, All2.ofRange V f (fun i hi => (hff i hi).1), by simp, hf.1, fun xs hxs => ?_⟩
  obtain ⟨i, hi, rfl⟩ := List.mem_map.1 hxs
  exact (hff i (List.mem_range.1 hi)).2
end
end Go.Proofs.YtbaombnnagidcaaDoor

namespace Go.Proofs.YtbaombnnagidcaaDoor
open Go.RowKit Go.ChangeShapes Go.WideShapes Go.ChangeAt

theorem val_slice {P : Program} {w : World} {r : Reach} {base : Nat} {t e : TypeId} {v u : Value} (ht : P.underlying t = some (.slice e)) (hok : Value.okWide P w r base t v) (h : v.cells.toList = [u]) : v = u := by
  cases v <;> first
    | (simpa [Value.cells] using h)
    | (simp [Value.okWide, ht, Cell.okWide, Cell.ok] at hok)

/-- WHAT A LAW's WALK MUST GIVE: at every reading of its arguments: true, and nothing of what was there has turned. -/
def LawWalk (f : FuncId) (fn : Func) (cond : (H : Type) → List (DataW H) → Prop) (laid : List (String × DataW Unit)) : Prop :=
  ∀ (H : Type) (enc : TypeId × Value → H) (W : World) (args : Array Value) (ds : List (DataW H)) (ps : List MemPlace),
    (∀ (j : Nat) t v, fn.params[j]? = some t → args[j]? = some v → ∃ base, Value.okWide Tryd.prog W .any base t v) →
    DataW.TrodAll enc Tryd.prog W 0 (fun _ => true) true fn.params.toList args.toList ds ps →
    (∀ (j : Nat) t d, fn.params.toList[j]? = some t → ds[j]? = some d → Fit Tryd.prog t d) → cond H ds → laidMetH Tryd.prog laid W →
    Calls Tryd.prog f args W fun e W' => e = .returned (.bool true) ∧ Upd Nil W W'

set_option maxRecDepth 100000 in
theorem law_contract {f : FuncId} {fn : Func} {s : ChangeSpec} {k : Option ((H : Type) → List (DataW H) → Bool)} {cond : (H : Type) → List (DataW H) → Prop} {laid : List (String × DataW Unit)} {fresh handsOn again : Bool}
    (walk : LawWalk f fn cond laid) (hcond : ∀ (H : Type) (ds : List (DataW H)), (∀ q, k = some q → q H ds = true) → cond H ds)
    (hread : ∀ t ∈ fn.params.toList, Tryd.prog.readableRec t = true ∧ t < Tryd.prog.types.size) (hres : fn.resultTypes = #[4]) (hvars : s.vars = [])
    (hspec : ∀ (H : Type) (ds : List (DataW H)), ds.length = fn.params.size → s.fn H (ds ++ []) = { results := [.lit (.bool true)], args := ds })
    {H : Type} {enc : TypeId × Value → H} (W : World) (base : Nat) (args : Array Value) (ds gs : List (DataW H)) (before : List MemPlace)
    (hval : ∀ (j : Nat) t v, fn.params[j]? = some t → args[j]? = some v → Value.okWide Tryd.prog W .any base t v)
    (hW : DataW.Whole enc Tryd.prog fn.params.toList s.vars false W args.toList ds gs before)
    (hk : ∀ q, k = some q → q H (ds ++ gs) = true)
    (hsz : (DataW.weightsEach Tryd.prog (fn.params.toList ++ (OpenSpec.ofChange s).bare.plain.varTypes Tryd.prog) (ds ++ gs)).all (· ≤ reachBytes) = true)
    (hL : laidMetH Tryd.prog laid W) :
    Calls Tryd.prog f args W fun e W' => ∃ v, e = .returned v ∧ s.post enc Tryd.prog fn false fresh handsOn again W args v W' := by
  have hW' := hW
  obtain ⟨p, q, hA, hV, rfl, hfz, hnd⟩ := hW
  rw [hvars] at hV
  obtain ⟨rfl, rfl⟩ := trodVars_none hV
  rw [List.append_nil] at hk hsz
  have hfit : ∀ (j : Nat) t d, fn.params.toList[j]? = some t → ds[j]? = some d → Fit Tryd.prog t d := fun j t d ht hd =>
    Fit.ofEach hsz (by rw [List.getElem?_append_left (by exact (List.getElem?_eq_some_iff.1 ht).1)]; exact ht) hd
  have hlen : ds.length = fn.params.size := by
    have := (trodAll_length hA).2
    simpa using this
  refine (walk H enc W args ds p (fun j t v h1 h2 => ⟨base, hval j t v h1 h2⟩) hA hfit (hcond H ds hk) hL).mono fun e W' ⟨he, hu⟩ => ?_
  subst he
  exact ⟨_, rfl, post_law laidOut hread hres Tryd.underlying4 hvars (hspec H ds hlen) hW' hu.below⟩
end Go.Proofs.YtbaombnnagidcaaDoor

namespace Go.Proofs.YtbaombnnagidcaaDoor
open Go.RowKit Go.Deep Go.WideShapes Go.ChangeShapes Go.ChangeAt

/-! ### the argument -/
/-- a call of a log: its number, a record -/
abbrev Do3 := Int × List UInt8
def Calls03 (w : World) (a : Option Addr) (n : Nat) (d : Nat → Do3) : Prop :=
  ∀ j, j < n → ∃ b o ab cb, a = some ⟨b, o, none⟩ ∧ w.cell? ⟨b, o + j * 2, none⟩ = some (.int .i64 (d j).1) ∧ w.cell? ⟨b, o + j * 2 + 1, none⟩ = some (.slice ab (d j).2.length cb) ∧
    Row (Old w) w ab (bvs (d j).2) ∧ (ab = none → cb = 0) ∧ (d j).2.length ≤ 140737488355328 ∧ (d j).2.length ≤ cb
theorem cells0392 : Tryd.prog.cellsOf 92 = 2 := by kernel_rfl
theorem cells033 : Tryd.prog.cellsOf 3 = 1 := by kernel_rfl
theorem cells035 : Tryd.prog.cellsOf 5 = 1 := by kernel_rfl
theorem cells0322 : Tryd.prog.cellsOf 22 = 1 := by kernel_rfl
section
variable {H : Type} {enc : TypeId × Value → H} {w : World} {spare : Nat → Bool} {held : Bool}
set_option maxRecDepth 100000 in
theorem openCalls03 {fuel : Nat} {cs : List Value} {x : DataW H × List MemPlace} (h : DataW.trod enc Tryd.prog w 0 spare held fuel 79 cs = some x) (hfit : Fit Tryd.prog 79 x.1) :
    ∃ a n c d, cs = [.slice a n c] ∧ Calls03 w a n d ∧ n * 32 ≤ reachBytes := by
  rcases open_slice Tryd.underlying79 h with ⟨rfl, rfl⟩ | ⟨a, n, c, m, k, D, Pl, rfl, _, hl, hm, hmm, rfl, hx⟩
  · exact ⟨none, 0, 0, fun _ => (0, []), rfl, fun j hj => absurd hj (Nat.not_lt_zero j), by omega⟩
  · have hnm : n ≤ m := by rw [hmm]; split <;> omega
    have hf0 := hfit.slice Tryd.underlying79
    have hf := hf0.2
    have hsz := hf0.1
    rw [show Tryd.prog.bytesOf 92 = 32 from by kernel_rfl] at hsz
    have hpl : 0 < n → ∃ b o, a = ⟨b, o, none⟩ := fun h0 => by
      obtain ⟨cs0, h1, _⟩ := hx 0 (by omega)
      rw [cells0392] at h1
      exact plain_base (by decide) h1
    have each : ∀ j, j < n → ∃ d : Do3, ∃ b o ab cb, some a = some ⟨b, o, none⟩ ∧ w.cell? ⟨b, o + j * 2, none⟩ = some (.int .i64 d.1) ∧ w.cell? ⟨b, o + j * 2 + 1, none⟩ = some (.slice ab d.2.length cb) ∧
        Row (Old w) w ab (bvs d.2) ∧ (ab = none → cb = 0) ∧ d.2.length ≤ 140737488355328 ∧ d.2.length ≤ cb := by
      intro j hj
      have hfj := hf (D j) (List.mem_map.2 ⟨j, List.mem_range.2 hj, rfl⟩)
      obtain ⟨cs', h1, h2⟩ := hx j (by omega)
      rw [cells0392] at h1
      obtain ⟨_, hlen, hcell⟩ := World.cells?_some h1
      obtain ⟨y0, y1, q, hD, _, g0, g1⟩ := trod_struct2 Tryd.underlying92 h2
      have hDj : D j = .agg [y0.1, y1.1] := congrArg Prod.fst hD
      rw [hDj] at hfj
      match cs', hlen with
      | [v0, v1], _ =>
        have e0 := hcell 0 (by omega)
        have e1 := hcell 1 (by omega)
        simp only [cells033, cells0322] at g0 g1
        obtain ⟨z0, rfl, _, _⟩ := trod_int_inv (v := v0) Tryd.underlying3 g0
        obtain ⟨v, xs, hv, ⟨ab, cb, rfl, r1, r2, r3, r4⟩, hlx, _⟩ := open_bytes Tryd.underlying22 Tryd.underlying5 cells035 g1 (by kernel_rfl) (hfj.struct Tryd.underlying92 (j := 1) rfl rfl)
        obtain rfl : v1 = .slice ab xs.length cb := by simpa using hv
        rw [Go.Deep.add_add] at e0 e1
        obtain ⟨b, o, rfl⟩ := hpl (by omega)
        rw [Addr.add_lit] at e0 e1
        have hrb : reachBytes ≤ 140737488355328 := by decide
        refine ⟨(z0, xs), b, o, ab, cb, rfl, by simpa using e0, by simpa [Nat.add_assoc] using e1, r1, r2, by show xs.length ≤ _; omega, r3⟩
    obtain ⟨d, hd⟩ := choose_lt each
    refine ⟨some a, n, c, d, rfl, fun j hj => hd j hj, ?_⟩
    simp at hsz
    omega
end
theorem mod_place3 (z : Int) {n : Nat} (h0 : 0 < n) (h1 : n ≤ 1000000) : ∃ m : Nat, m < n ∧ wrap64 ((IntKind.u64.wrap z).tmod (n : Int)) = (m : Int) := by
  have hz : 0 ≤ IntKind.u64.wrap z := by
    simp only [IntKind.wrap_u64]
    omega
  have e := Int.tmod_eq_emod_of_nonneg (b := (n : Int)) hz
  have h2 : 0 ≤ IntKind.u64.wrap z % (n : Int) := Int.emod_nonneg _ (by omega)
  have h3 : IntKind.u64.wrap z % (n : Int) < n := Int.emod_lt_of_pos _ (by omega)
  obtain ⟨r, hr⟩ : ∃ r, IntKind.u64.wrap z % (n : Int) = r := ⟨_, rfl⟩
  rw [hr] at h2 h3 e
  refine ⟨r.toNat, by omega, ?_⟩
  rw [e]
  unfold wrap64
  omega
/-- a call's kind -/
theorem kind3 (z : Int) : wrap64 ((IntKind.u64.wrap z).tmod 5) = 0 ∨ wrap64 ((IntKind.u64.wrap z).tmod 5) = 1 ∨ wrap64 ((IntKind.u64.wrap z).tmod 5) = 2 ∨ wrap64 ((IntKind.u64.wrap z).tmod 5) = 3 ∨ wrap64 ((IntKind.u64.wrap z).tmod 5) = 4 := by
  obtain ⟨m, h1, h2⟩ := mod_place3 z (n := 5) (by decide) (by decide)
  have h3 : wrap64 ((IntKind.u64.wrap z).tmod 5) = (m : Int) := h2
  rw [h3]
  omega

/-! ### sizes of what is written -/
theorem fine_forceN {B : List (List UInt8)} {S : LogS} (hB : Fine B []) (hf : LFine S) (hfr : S.fr + S.sectors ≤ B.length) : Fine B (forceN S) := by
  unfold forceN
  split
  · exact hB
  · have := hf.stream
    have := hf.durable
    exact fine_forceL hB (by omega)
theorem fine_resetN {B : List (List UInt8)} {S : LogS} (hB : Fine B []) (hf : LFine S) (hfr : S.fr + S.sectors ≤ B.length) : Fine B (resetN S) := by
  unfold resetN
  split
  · exact hB
  · have := hf.pos
    exact hB.snoc (i := S.fr) (by omega) (length_sectorL (Nat.zero_le _))
theorem openS_CFine {B : List (List UInt8)} {fr n : Nat} (h1 : 1 ≤ n) (h2 : fr + n ≤ B.length) : CFine (openS B fr n) B (openR B fr n).1 (openR B fr n).2.2.length := by
  obtain ⟨f1, f2, f3, f4⟩ := openR_facts B fr n
  obtain ⟨g1, g2⟩ := splitL_facts _ (openR B fr n).2.2 (Nat.le_refl _)
  refine ⟨h1, h2, ?_, g1, f1, f2, f3, f4⟩
  show (splitL (openR B fr n).2.2).2 = ((openR B fr n).2.2.take (splitL (openR B fr n).2.2).2).length
  rw [List.length_take]
  omega
theorem fine_openW {B : List (List UInt8)} {fr n : Nat} (hB : Fine B []) (h1 : 1 ≤ n) (h2 : fr + n ≤ B.length) : Fine B (openW B fr n) := by
  have hc := openS_CFine h1 h2
  have hu := hc.used
  refine ⟨hB.pos, hB.le, hB.size, fun p hp => ?_⟩
  have e1 : (openS B fr n).fr = fr := rfl
  have e2 : (openS B fr n).sectors = n := rfl
  unfold openW cleanW at hp
  rcases List.mem_append.1 hp with hp | hp
  · have := lastW_mem hc hp
    rw [e1] at this
    rw [e2] at hu
    exact ⟨by omega, this.2⟩
  · have := zerosL_mem hp
    rw [e1, e2] at this
    rw [e2] at hu
    exact ⟨by omega, this.2.2⟩

/-! ### a log over a whole disk -/
structure Good (B : List (List UInt8)) (S : LogS) : Prop where
  fine : LFine S
  fr : S.fr = 0
  sec : S.sectors = B.length
  disk : Fine B []
  stale : NoStale B S.last
namespace Good
variable {B : List (List UInt8)} {S : LogS}
theorem all (h : Good B S) : S.fr + S.sectors ≤ B.length := by rw [h.fr, h.sec]; omega
theorem append (h : Good B S) (r : List UInt8) : Good B (appendS S r) :=
  ⟨h.fine.append r, by unfold appendS; split <;> exact h.fr, by unfold appendS; split <;> exact h.sec, h.disk, h.stale.append r⟩
theorem force (h : Good B S) : Good (applyP B (forceN S)) (forceS S) :=
  ⟨h.fine.force, by unfold forceS; split <;> exact h.fr, by rw [length_applyP]; unfold forceS; split <;> exact h.sec, (fine_forceN h.disk h.fine h.all).flush, by
    have e : (forceS S).last = S.last := by unfold forceS; split <;> rfl
    rw [e]
    exact h.stale.force h.fine h.fr⟩
theorem reset (h : Good B S) : Good (applyP B (resetN S)) (resetS S) :=
  ⟨h.fine.reset, by unfold resetS; split <;> exact h.fr, by rw [length_applyP]; unfold resetS; split <;> exact h.sec, (fine_resetN h.disk h.fine h.all).flush, h.stale.reset h.fr⟩
theorem opened (hB : Fine B []) : Good (applyP B (openW B 0 B.length)) (openS B 0 B.length) :=
  ⟨openS_fine hB.pos (by have := hB.le; omega), rfl, by rw [length_applyP]; rfl, (fine_openW hB hB.pos (by omega)).flush, NoStale.opened rfl⟩
end Good
theorem opened_few {B : List (List UInt8)} (hB : Fine B []) : (splitL (openR B 0 B.length).2.2).1.length ≤ 458752 := by
  obtain ⟨f1, f2, _, _⟩ := openR_facts B 0 B.length
  obtain ⟨g1, g2⟩ := splitL_facts _ (openR B 0 B.length).2.2 (Nat.le_refl _)
  have := hB.le
  omega
end Go.Proofs.YtbaombnnagidcaaDoor
