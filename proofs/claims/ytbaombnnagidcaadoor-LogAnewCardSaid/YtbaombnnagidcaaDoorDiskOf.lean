/- DiskOf: a disk of an image goes its own way from a copy of it; for every image and every list of calls. -/
import Derived.Test.YtbaombnnagidcaaDoorDiskAny
namespace Go.Proofs.YtbaombnnagidcaaDoor.diskOf
open Go.RowKit Go.Deep Go.WideShapes Go.ChangeShapes Go.ChangeAt

/-! ### the image's copy -/
set_option maxHeartbeats 1000000 in
theorem plainImage {F E : Nat → Prop} (w : World) {A : Option Addr} {c0 : Nat} {vs : List Value} {B : List (List UInt8)} (hown : Row F w A vs) (hall : All2 (Elem E w) vs B) (hl : B.length * 24 ≤ 140737488355328) (hx : ∀ x ∈ B, x.length ≤ 140737488355328) :
    Calls Tryd.prog 80 #[.slice A B.length c0] w (GotRows w B) := by
  obtain ⟨i0, hi, hz0, hz1, hz2⟩ := info_parts infoBytes
  have hi0 := Lib.hid (And.intro hi (And.intro hz0 (And.intro hz1 hz2)))
  clear hi hz0 hz1 hz2
  have HO := Lib.hid hown
  have HA := Lib.hid hall
  have HX := Lib.hid hx
  have HL := Lib.hid hl
  have hl' : B.length ≤ 9223372036854775807 := by omega
  clear hown hall hx hl
  go_enter Tryd.func80, Tryd.ntmps80
  go_wp2
  go_loopg [3, 8] B.length (fun k v i wr => ∃ j : Nat, j + k = B.length ∧ i = .int .i64 j ∧ ∃ (R' E' : Nat → Prop) (a : Option Addr) (c : Nat) (us : List Value), v = .slice a j c ∧ Rows R' E' wr a j c us (B.take j) ∧ (∀ q, R' q → Fr w wr q) ∧ (∀ q, E' q → Fr w wr q) ∧ Upd Nil w wr)
  case atStart => exact ⟨0, by omega, rfl, Nil, Nil, none, 0, [], rfl, ⟨Own.none_ _ _ _ _, trivial, rfl, fun _ f => f.elim, fun _ f => f.elim, fun _ f => f.elim⟩, fun _ f => f.elim, fun _ f => f.elim, Upd.refl _ _⟩
  case round =>
    obtain ⟨j, hjk, rfl, R', E', a, c, us, rfl, hrows, hR', hE', hup⟩ := hrel
    have hjn : j ≤ B.length := by omega
    have HJ := Lib.hid hjk
    have HRw := Lib.hid hrows
    have HR' := Lib.hid hR'
    have HE' := Lib.hid hE'
    have HU := Lib.hid hup
    clear hjk hrows hR' hE' hup
    by_cases hlt : j < B.length
    · obtain ⟨v, hv, ax, cx, rfl, rx, _⟩ := HA.out.get hlt
      obtain ⟨b, o, rfl, _, hcell0⟩ := rowAt HO.out hv
      have hcell := HU.out.cell hcell0 (fun f => f)
      have HRx := Lib.hid (rx.keep HU.out)
      clear hv hcell0 rx
      go_wp2_with (first
        | (go_at_call 13; refine (bytesClone _ cx HRx.out (HX.out _ (List.getElem_mem hlt))).mono ?_; rintro e w1 ⟨a1, c1, rfl, hown1, hup1⟩; have HO1 := Lib.hid hown1; have HU1 := Lib.hid hup1; clear hown1 hup1)
        | (at_builtin; refine wpList_append_Own rfl _ _ _ rfl Tryd.underlying59 hi0.out.1 hi0.out.2.1 hi0.out.2.2.1 hi0.out.2.2.2 rfl (by decide) rfl ((HRw.out.own.keep HU1.out).alloc _) rfl (one_row w1 _ _) (by simp) (by simp [Value.oneCell']) (by intro h; cases h) (by simp only [maxLen]; omega) (by have := HL.out; omega) ?_
           intro a2 c2 w2 hown2 hup2 hne2; have HO2 := Lib.hid hown2; have HU2 := Lib.hid hup2; clear hown2 hup2 hne2))
      go_roundg (gk - 1)
      case measure => have := HJ.out; omega
      case rel =>
        obtain ⟨f0, f1, f2⟩ := fr_grow HU.out HU1.out HU2.out
        have hrows' := HRw.out.snoc HO1.out HU1.out HO2.out HU2.out
        rw [← List.take_succ_eq_append_getElem hlt] at hrows'
        refine ⟨j + 1, by have := HJ.out; omega, by go_num, _, _, a2, c2, _, rfl, hrows', ?_, ?_, ?_⟩
        · rintro q (h | h)
          · exact f0 q (HR'.out q h)
          · exact f2 q h
        · rintro q (h | h)
          · exact f0 q (HE'.out q h)
          · exact f1 q h
        · exact ((HU.out.trans HU1.out (fun _ f _ => f)).alloc _).trans HU2.out (fun k hk hlt => by have := (HR'.out k hk).1; omega)
    · obtain rfl : j = B.length := by omega
      go_wp2
      go_ret
      have hr := HRw.out
      rw [List.take_length] at hr
      exact ⟨R', E', a, c, us, rfl, hr, HR'.out, HE'.out, HU.out⟩

/-! ### slices.ContainsFunc: is one of another size? -/
theorem isOther (w : World) (a : Option Addr) (n c : Nat) : Calls Tryd.prog 105 #[.slice a n c] w fun e w' => e = .returned (.bool (((n : Int) != 128))) ∧ w = w' := by
  go_enter Tryd.func105, Tryd.ntmps105
  go_wp2
  go_ret
  exact ⟨rfl, rfl⟩

/-- all have the size -/
def AllSize (B : List (List UInt8)) : Prop := ∀ b ∈ B, b.length = 128

set_option maxHeartbeats 1000000 in
theorem indexFunc_no {F E : Nat → Prop} (w : World) {A : Option Addr} {c0 : Nat} {vs : List Value} {B : List (List UInt8)} (hown : Row F w A vs) (hall : All2 (Elem E w) vs B) (hl : B.length ≤ 4096) (hs : AllSize B) :
    Calls Tryd.prog 121 #[.slice A B.length c0, .func (.func 105) #[] #[]] w fun e w' => e = .returned (.int .i64 (-1)) ∧ w = w' := by
  have HO := Lib.hid hown
  have HA := Lib.hid hall
  have HS := Lib.hid hs
  clear hown hall hs
  go_enter Tryd.func121, Tryd.ntmps121
  go_wp2
  go_loopg [8] B.length (fun k i wr => ∃ j : Nat, j + k = B.length ∧ i = .int .i64 j ∧ w = wr)
  case atStart => exact ⟨0, by omega, rfl, rfl⟩
  case round =>
    obtain ⟨j, hjk, rfl, rfl⟩ := hrel
    have hjn : j ≤ B.length := by omega
    have HJ := Lib.hid hjk
    clear hjk
    by_cases hlt : j < B.length
    · obtain ⟨v, hv, ax, cx, rfl, rx, _⟩ := HA.out.get hlt
      obtain ⟨b, o, rfl, _, hcell⟩ := rowAt HO.out hv
      have hsz := HS.out _ (List.getElem_mem hlt)
      have hne : (((B[j].length : Nat) : Int) != 128) = false := by rw [hsz]; rfl
      clear hv rx hsz
      go_wp2_with (go_at_call 105; refine (isOther _ _ _ _).mono ?_; rintro e w' ⟨rfl, rfl⟩)
      go_roundg (gk - 1)
      case measure => have := HJ.out; omega
      case rel => exact ⟨j + 1, by have := HJ.out; omega, by go_num, rfl⟩
    · go_wp2
      go_ret
      exact ⟨rfl, rfl⟩

/-- some place -/
def SomePlace (w : World) (e : Ending) (w' : World) : Prop := ∃ j : Nat, e = .returned (.int .i64 (j : Int)) ∧ w = w'
set_option maxHeartbeats 1000000 in
theorem indexFunc_yes {F E : Nat → Prop} (w : World) {A : Option Addr} {c0 : Nat} {vs : List Value} {B : List (List UInt8)} (hown : Row F w A vs) (hall : All2 (Elem E w) vs B) (hl : B.length ≤ 4096) (hs : ¬ AllSize B) :
    Calls Tryd.prog 121 #[.slice A B.length c0, .func (.func 105) #[] #[]] w (SomePlace w) := by
  have HO := Lib.hid hown
  have HA := Lib.hid hall
  have HS := Lib.hid hs
  clear hown hall hs
  go_enter Tryd.func121, Tryd.ntmps121
  go_wp2
  go_loopg [8] B.length (fun k i wr => ∃ j : Nat, j + k = B.length ∧ i = .int .i64 j ∧ w = wr ∧ ∀ q (hq : q < B.length), q < j → (B[q]).length = 128)
  case atStart => exact ⟨0, by omega, rfl, rfl, fun q hq h => by omega⟩
  case round =>
    obtain ⟨j, hjk, rfl, rfl, hall⟩ := hrel
    have hjn : j ≤ B.length := by omega
    have HJ := Lib.hid hjk
    have HQ := Lib.hid hall
    clear hjk hall
    by_cases hlt : j < B.length
    · obtain ⟨v, hv, ax, cx, rfl, rx, _⟩ := HA.out.get hlt
      obtain ⟨b, o, rfl, _, hcell⟩ := rowAt HO.out hv
      clear hv rx
      by_cases hsz : (B[j]).length = 128
      · have hne : (((B[j].length : Nat) : Int) != 128) = false := by rw [hsz]; rfl
        have HZ := Lib.hid hsz
        clear hsz
        go_wp2_with (go_at_call 105; refine (isOther _ _ _ _).mono ?_; rintro e w' ⟨rfl, rfl⟩)
        go_roundg (gk - 1)
        case measure => have := HJ.out; omega
        case rel =>
          refine ⟨j + 1, by have := HJ.out; omega, by go_num, rfl, fun q hq h => ?_⟩
          by_cases e : q = j
          · subst e
            exact HZ.out
          · exact HQ.out q hq (by omega)
      · have hne : (((B[j].length : Nat) : Int) != 128) = true := by rw [bne_iff_ne]; omega
        clear hsz
        go_wp2_with (go_at_call 105; refine (isOther _ _ _ _).mono ?_; rintro e w' ⟨rfl, rfl⟩)
        go_ret
        exact ⟨j, rfl, rfl⟩
    · refine absurd (fun b hb => ?_) HS.out
      obtain ⟨q, hq, rfl⟩ := List.getElem_of_mem hb
      exact HQ.out q hq (by omega)

theorem containsFunc_no {F E : Nat → Prop} (w : World) {A : Option Addr} {c0 : Nat} {vs : List Value} {B : List (List UInt8)} (hown : Row F w A vs) (hall : All2 (Elem E w) vs B) (hl : B.length ≤ 4096) (hs : AllSize B) :
    Calls Tryd.prog 104 #[.slice A B.length c0, .func (.func 105) #[] #[]] w fun e w' => e = .returned (.bool false) ∧ w = w' := by
  have H := Lib.hid (indexFunc_no (c0 := c0) w hown hall hl hs)
  clear hown hall hs
  go_enter Tryd.func104, Tryd.ntmps104
  go_wp2_with (go_at_call 121; refine H.out.mono ?_; rintro e w' ⟨rfl, rfl⟩)
  go_ret
  exact ⟨rfl, rfl⟩
theorem containsFunc_yes {F E : Nat → Prop} (w : World) {A : Option Addr} {c0 : Nat} {vs : List Value} {B : List (List UInt8)} (hown : Row F w A vs) (hall : All2 (Elem E w) vs B) (hl : B.length ≤ 4096) (hs : ¬ AllSize B) :
    Calls Tryd.prog 104 #[.slice A B.length c0, .func (.func 105) #[] #[]] w fun e w' => e = .returned (.bool true) ∧ w = w' := by
  have H := Lib.hid (indexFunc_yes (c0 := c0) w hown hall hl hs)
  clear hown hall hs
  go_enter Tryd.func104, Tryd.ntmps104
  go_wp2_with (go_at_call 121; refine H.out.mono ?_; rintro e w' ⟨j, rfl, rfl⟩)
  go_ret
  exact ⟨rfl, rfl⟩
set_option maxHeartbeats 1000000 in
theorem platter_image_of {F E : Nat → Prop} (w : World) {s : Nat} {B : List (List UInt8)} {al : Option Addr} {cl : Nat} {vs : List Value} (hc0 : w.cell? ⟨s, 0, none⟩ = some (.slice al B.length cl)) (hown : Row F w al vs) (hall : All2 (Elem E w) vs B) (hl : B.length ≤ 1000000) (hx : ∀ x ∈ B, x.length ≤ 140737488355328) :
    Calls Tryd.prog 106 #[.pointer (some ⟨s, 0, none⟩)] w (GotRows w B) := by
  obtain ⟨i0, hi, hz0, hz1, hz2⟩ := info_parts infoBytes
  have hi0 := Lib.hid (And.intro hi (And.intro hz0 (And.intro hz1 hz2)))
  clear hi hz0 hz1 hz2
  have HO := Lib.hid hown
  have HA := Lib.hid hall
  have HX := Lib.hid hx
  clear hown hall hx
  go_enter Tryd.func106, Tryd.ntmps106
  go_wp2
  go_loopg [3, 11] B.length (fun k v i wr => ∃ j : Nat, j + k = B.length ∧ i = .int .i64 j ∧ ∃ (R' E' : Nat → Prop) (a : Option Addr) (c : Nat) (us : List Value), v = .slice a j c ∧ Rows R' E' wr a j c us (B.take j) ∧ (∀ q, R' q → Fr w wr q) ∧ (∀ q, E' q → Fr w wr q) ∧ Upd Nil w wr)
  case atStart => exact ⟨0, by omega, rfl, Nil, Nil, none, 0, [], rfl, ⟨Own.none_ _ _ _ _, trivial, rfl, fun _ f => f.elim, fun _ f => f.elim, fun _ f => f.elim⟩, fun _ f => f.elim, fun _ f => f.elim, Upd.refl _ _⟩
  case round =>
    obtain ⟨j, hjk, rfl, R', E', a, c, us, rfl, hrows, hR', hE', hup⟩ := hrel
    have hjn : j ≤ B.length := by omega
    have HJ := Lib.hid hjk
    have HRw := Lib.hid hrows
    have HR' := Lib.hid hR'
    have HE' := Lib.hid hE'
    have HU := Lib.hid hup
    clear hjk hrows hR' hE' hup
    by_cases hlt : j < B.length
    · obtain ⟨v, hv, ax, cx, rfl, rx, _⟩ := HA.out.get hlt
      obtain ⟨b, o, rfl, _, hcell0⟩ := rowAt HO.out hv
      have hcell := HU.out.cell hcell0 (fun f => f)
      have HRx := Lib.hid (rx.keep HU.out)
      clear hv hcell0 rx
      go_wp2_with (first
        | (go_at_call 13; refine (bytesClone _ cx HRx.out (HX.out _ (List.getElem_mem hlt))).mono ?_; rintro e w1 ⟨a1, c1, rfl, hown1, hup1⟩; have HO1 := Lib.hid hown1; have HU1 := Lib.hid hup1; clear hown1 hup1)
        | (at_builtin; refine wpList_append_Own rfl _ _ _ rfl Tryd.underlying59 hi0.out.1 hi0.out.2.1 hi0.out.2.2.1 hi0.out.2.2.2 rfl (by decide) rfl ((HRw.out.own.keep HU1.out).alloc _) rfl (one_row w1 _ _) (by simp) (by simp [Value.oneCell']) (by intro h; cases h) (by simp only [maxLen]; omega) (by omega) ?_
           intro a2 c2 w2 hown2 hup2 hne2; have HO2 := Lib.hid hown2; have HU2 := Lib.hid hup2; clear hown2 hup2 hne2))
      go_roundg (gk - 1)
      case measure => have := HJ.out; omega
      case rel =>
        obtain ⟨f0, f1, f2⟩ := fr_grow HU.out HU1.out HU2.out
        have hrows' := HRw.out.snoc HO1.out HU1.out HO2.out HU2.out
        rw [← List.take_succ_eq_append_getElem hlt] at hrows'
        refine ⟨j + 1, by have := HJ.out; omega, by go_num, _, _, a2, c2, _, rfl, hrows', ?_, ?_, ?_⟩
        · rintro q (h | h)
          · exact f0 q (HR'.out q h)
          · exact f2 q h
        · rintro q (h | h)
          · exact f0 q (HE'.out q h)
          · exact f1 q h
        · exact ((HU.out.trans HU1.out (fun _ f _ => f)).alloc _).trans HU2.out (fun k hk hlt => by have := (HR'.out k hk).1; omega)
    · obtain rfl : j = B.length := by omega
      go_wp2
      go_ret
      have hr := HRw.out
      rw [List.take_length] at hr
      exact ⟨R', E', a, c, us, rfl, hr, HR'.out, HE'.out, HU.out⟩

theorem disk_Of_no (w : World) {A : Option Addr} {n c0 : Nat} (hn : n < 1 ∨ 4096 < n) :
    Calls Tryd.prog 79 #[.slice A n c0] w fun e w' => e = .returned (.tuple #[.pointer none, .int .i64 1]) ∧ w = w' := by
  by_cases h1 : n < 1
  · clear hn
    go_enter Tryd.func79, Tryd.ntmps79
    go_wp2
    go_ret2
    exact ⟨rfl, rfl⟩
  · have h2 : 4096 < n := by omega
    clear hn
    go_enter Tryd.func79, Tryd.ntmps79
    go_wp2
    go_ret2
    exact ⟨rfl, rfl⟩
theorem disk_Of_other {F E : Nat → Prop} (w : World) {A : Option Addr} {c0 : Nat} {vs : List Value} {B : List (List UInt8)} (hown : Row F w A vs) (hall : All2 (Elem E w) vs B) (h1 : 1 ≤ B.length) (h2 : B.length ≤ 4096) (hs : ¬ AllSize B) :
    Calls Tryd.prog 79 #[.slice A B.length c0] w fun e w' => e = .returned (.tuple #[.pointer none, .int .i64 1]) ∧ w = w' := by
  have H := Lib.hid (containsFunc_yes (c0 := c0) w hown hall h2 hs)
  clear hown hall hs
  go_enter Tryd.func79, Tryd.ntmps79
  go_wp2_with (go_at_call 104; refine H.out.mono ?_; rintro e w' ⟨rfl, rfl⟩)
  go_ret2
  exact ⟨rfl, rfl⟩
set_option maxHeartbeats 1000000 in
theorem disk_Of_yes {F E : Nat → Prop} (w : World) {A : Option Addr} {c0 : Nat} {vs : List Value} {B : List (List UInt8)} (hown : Row F w A vs) (hall : All2 (Elem E w) vs B) (h1 : 1 ≤ B.length) (h2 : B.length ≤ 4096) (hs : AllSize B) :
    Calls Tryd.prog 79 #[.slice A B.length c0] w (GotDisk 76 w B) := by
  have H := Lib.hid (containsFunc_no (c0 := c0) w hown hall h2 hs)
  have al : Upd Nil w (w.alloc (.cells #[.slice A B.length c0] 73)) := (Upd.refl Nil w).alloc _
  have HI := Lib.hid (platter_image_of (w.alloc (.cells #[.slice A B.length c0] 73)) (s := w.heap.size) ((Blk.new w 73 #[.slice A B.length c0]).cell 0) (hown.keep al) (hall.mono (fun v x h => h.keep al)) (by omega) (fun x hx => by rw [hs x hx]; decide))
  have HAl := Lib.hid al
  clear hown hall hs al
  go_enter Tryd.func79, Tryd.ntmps79
  go_wp2_with (first
    | (go_at_call 104; refine H.out.mono ?_; rintro e w' ⟨rfl, rfl⟩)
    | (go_at_call 106; refine HI.out.mono ?_; rintro e w1 ⟨R1, E1, a1, c1, v1, rfl, g1, g2, g3, g4⟩; have H1 := Lib.hid g1; have H2 := Lib.hid g2; have H3 := Lib.hid g3; have H4 := Lib.hid g4; clear g1 g2 g3 g4))
  go_ret2
  have hcp := copy_end (t := 76) (P := []) H1.out H2.out H3.out H4.out (SRows.none_ w1) (fun _ f => f.elim) (fun _ f => f.elim) (Upd.refl _ _)
  exact ⟨_, _, rfl, hcp, fun k hk => ⟨by have := hk.1; simp only [World.size_alloc] at this; omega, hk.2⟩, (HAl.out.trans H4.out (fun _ f _ => f)).alloc _⟩

theorem x_Of_no (w : World) {A : Option Addr} {n c0 : Nat} (hn : n < 1 ∨ 4096 < n) :
    Calls Tryd.prog 82 #[.slice A n c0] w fun e w' => e = .returned (.tuple #[.pointer none, .int .i64 1]) ∧ w = w' := by
  by_cases h1 : n < 1
  · clear hn
    go_enter Tryd.func82, Tryd.ntmps82
    go_wp2
    go_ret2
    exact ⟨rfl, rfl⟩
  · have h2 : 4096 < n := by omega
    clear hn
    go_enter Tryd.func82, Tryd.ntmps82
    go_wp2
    go_ret2
    exact ⟨rfl, rfl⟩

/-- what Of of a list of sectors answers -/
def OfGot (t : TypeId) (w : World) (B : List (List UInt8)) (e : Ending) (w' : World) : Prop := (AllSize B → GotDisk t w B e w') ∧ (¬ AllSize B → e = .returned (.tuple #[.pointer none, .int .i64 1]) ∧ Upd Nil w w')

set_option maxRecDepth 100000 in
set_option maxHeartbeats 2000000 in
theorem x_Of {F0 E0 : Nat → Prop} (w : World) {A : Option Addr} {c0 : Nat} {vs : List Value} {B : List (List UInt8)} (hown : Row F0 w A vs) (hall : All2 (Elem E0 w) vs B) (hn1 : 1 ≤ B.length) (hn2 : B.length ≤ 4096) :
    Calls Tryd.prog 82 #[.slice A B.length c0] w (OfGot 155 w B) := by
  have HRow := Lib.hid hown
  have HAll := Lib.hid hall
  obtain ⟨i0, hi, hz0, hz1, hz2⟩ := info_parts infoBytes
  have hi0 := Lib.hid (And.intro hi (And.intro hz0 (And.intro hz1 hz2)))
  clear hi hz0 hz1 hz2 hown hall
  go_enter Tryd.func82, Tryd.ntmps82
  go_wp2
  go_loopg [19] B.length (fun k i wr => ∃ j : Nat, j + k = B.length ∧ i = .int .i64 j ∧ (∀ q (hq : q < B.length), q < j → (B[q]).length = 128) ∧ ∃ R E F : Nat → Prop, DParts 155 F R Nil E wr w.heap.size (B.take j) [] ∧ (∀ k, F k → Fr w wr k) ∧ Upd Nil w wr)
  case atStart =>
    refine ⟨0, by omega, rfl, fun q hq h => by omega, Nil, Nil, _, DParts.new w (fun k hk => hk.elim), ?_, (Upd.refl Nil w).alloc _⟩
    rintro k (hk | rfl)
    · exact hk.elim
    · exact ⟨Nat.le_refl _, by simp⟩
  case round =>
    obtain ⟨j, hjk, rfl, hsz, R, E, F, hparts, hF, hup⟩ := hrel
    have hjn : j ≤ B.length := by omega
    have hlj : (B.take j).length = j := by rw [List.length_take]; omega
    have HJ := Lib.hid hjk
    have HP := Lib.hid hparts
    have HF := Lib.hid hF
    have HU := Lib.hid hup
    have HSz := Lib.hid hsz
    have HLj := Lib.hid hlj
    clear hjk hF hup hsz hlj
    by_cases hlt : j < B.length
    · obtain ⟨v, hv, ax, cx, rfl, rx, nx, _⟩ := HAll.out.get hlt
      obtain ⟨b, o, rfl, _, hcell0⟩ := rowAt HRow.out hv
      have hcell := HU.out.cell hcell0 (fun f => f)
      obtain ⟨x, hx⟩ : ∃ x, B[j] = x := ⟨_, rfl⟩
      rw [hx] at hcell rx
      have HX := Lib.hid hx
      have HRx := Lib.hid (rx.keep HU.out)
      have HNx := Lib.hid nx
      have HTk := Lib.hid (show B.take (j + 1) = B.take j ++ [x] by rw [List.take_succ_eq_append_getElem hlt, hx])
      clear hv hcell0 rx nx hx
      obtain ⟨a, c, us, p, d, vs', hFs, hR, hQ, hE, hb, hown, hq, hvs, hsent⟩ := id hparts
      rw [HLj.out] at hb hown
      have hc00 : wr.cell? ⟨w.heap.size, 0, none⟩ = some (.slice a j c) := hb.cell 0
      have hlt0 : w.heap.size < wr.heap.size := hb.lt
      have HB := Lib.hid hb
      have HO := Lib.hid hown
      have HV := Lib.hid hvs
      have HR := Lib.hid hR
      have HC0 := Lib.hid hc00
      clear hR hQ hE hb hown hq hvs hsent hFs hparts
      by_cases h128 : x.length = 128
      · have hne : ((x.length : Int) != 128) = false := by rw [h128]; rfl
        have HX128 := Lib.hid h128
        clear h128
        go_wp2
        go_region_law (first
          | (go_simp; go_at_call 108; refine (copied02 _ cx (HRx.out.drew) HNx.out (by rw [HX128.out]; decide)).mono ?_; rintro e w1 ⟨a1, c1, rfl, hown1, hup1⟩
             have hup1 := hup1.ofDrew
             have hown1 : Own (Fr wr w1) w1 5 1 a1 x.length c1 (bvs x) := hown1
             have hd0 := hup1.cell HC0.out (fun f => f); have hlt1 : w.heap.size < w1.heap.size := World.block_lt_of_cell? w1 _ hd0
             have HO1 := Lib.hid hown1; have HU1 := Lib.hid hup1; clear hown1 hup1)
          | (refine step_append_Own rfl (.tmp 30) (.tmp 33) 59 rfl Tryd.underlying59 hi0.out.1 hi0.out.2.1 hi0.out.2.2.1 hi0.out.2.2.2 rfl (by decide) rfl ((HO.out.keep HU1.out).alloc _) rfl (one_row w1 _ _) (by simp) (by simp [Value.oneCell']) (by intro h; cases h) (by simp only [maxLen]; omega) (by omega) ?_
             intro a2 c2 w2 hown2 hup2 hne2
             have hb2 := ((HB.out.upd HU1.out (fun f => f)).alloc (.cells #[.slice a1 x.length c1] 22)).upd hup2 (fun f => (HR.out _ f).2.1 rfl)
             have HO2 := Lib.hid hown2; have HU2 := Lib.hid hup2; clear hown2 hup2 hne2
             have he0 := hb2.cell 0; have hf0 := hb2.frozen 0
             clear hb2))
        all_goals go_wp2
        all_goals go_roundg (gk - 1)
        all_goals first
          | (have := HJ.out; omega)
          | (have hz0 := HU.out.size
             have hz1 := HU1.out.size
             have hz2 := HU2.out.size
             simp only [World.size_alloc] at hz2
             have hp1 := (HP.out.keep HU1.out).more (G := Fr wr w1) (fun k hk => by
               obtain ⟨_, _, _, _, _, _, _, h3, h4, h5, h6, _⟩ := HP.out
               have hk1 := hk.1
               have := h6.lt
               exact ⟨by omega, fun r => by have := (h3 k r).2.2; omega, fun q => q, hk.2⟩)
             have hel : Elem (fun k => E k ∨ Fr wr w1 k) w1 (.slice a1 x.length c1) x := HO1.out.elem.mono (fun k h => .inr h)
             have hc1 : w1.cell? ⟨w.heap.size, 0, none⟩ = some (.slice a (B.take j).length c) := by rw [HLj.out]; exact HU1.out.cell HC0.out (fun f => f)
             obtain ⟨hp, hu⟩ := sect_end (o := .cells #[.slice a1 x.length c1] 22) hp1 hc1 (HV.out.mono (fun v y h => (h.keep HU1.out).mono (fun k h => Or.inl (b := Fr wr w1 k) h))) hel (by rw [HLj.out]; exact HO2.out) HU2.out
             rw [← HTk.out, HLj.out] at hp
             rw [HLj.out] at hu
             refine ⟨j + 1, by have := HJ.out; omega, by go_num, fun q hq h => ?_, _, _, _, hp, ?_, (HU.out.trans HU1.out (fun _ f _ => f)).trans hu (fun k hk hlt => ?_)⟩
             · by_cases e : q = j
               · subst e
                 rw [HX.out]
                 exact HX128.out
               · exact HSz.out q hq (by omega)
             · rintro k ((h | h) | ⟨e1, e2⟩)
               · have := HF.out k h
                 exact ⟨this.1, by have := this.2; simp; omega⟩
               · exact ⟨by have := h.1; omega, by have := h.2; simp; omega⟩
               · have e1' := e1
                 simp only [World.size_alloc] at e1'
                 exact ⟨by omega, by simpa using e2⟩
             · rcases hk with h | rfl
               · have := (HF.out k (HR.out k h).1).1
                 omega
               · omega)
      · have hne : ((x.length : Int) != 128) = true := by rw [bne_iff_ne]; omega
        have HN128 := Lib.hid h128
        clear h128
        go_wp2
        go_ret2
        refine ⟨fun h => absurd (h _ (List.getElem_mem hlt)) (by rw [HX.out]; exact HN128.out), fun _ => ⟨rfl, HU.out⟩⟩
    · obtain rfl : j = B.length := by omega
      have hp := HP.out
      rw [List.take_length] at hp
      have HP2 := Lib.hid hp
      clear hp hparts
      go_wp2
      go_ret2
      refine ⟨fun _ => ⟨_, F, rfl, HP2.out.rep, HF.out, HU.out⟩, fun h => absurd (fun b hb => ?_) h⟩
      obtain ⟨q, hq, rfl⟩ := List.getElem_of_mem hb
      exact HSz.out q hq hq
end Go.Proofs.YtbaombnnagidcaaDoor.diskOf
