/- The log's laws: fill (a log on a disk behind calls), records (those of a disk). -/
import Derived.Test.YtbaombnnagidcaaDoorZL19

namespace Go.Proofs.YtbaombnnagidcaaDoor
open Go.RowKit diskOf

theorem results_tmp5 {fn : Func} {t u v x y : Tmp} (h : fn.results = #[.tmp t, .tmp u, .tmp v, .tmp x, .tmp y]) (tmps : Array Value) (P : Program) (w : World) :
    (results fn tmps).run P w = .ok (.tuple #[tmps.getD t undef, tmps.getD u undef, tmps.getD v undef, tmps.getD x undef, tmps.getD y undef]) w := by
  simp [results, h]

/-- what fill hands back, of an image that is none -/
def NoFill (w : World) (e : Ending) (w' : World) : Prop := e = .returned (.tuple #[.pointer none, .pointer none, .slice none 0 0, .int .i64 0, .bool false]) ∧ Upd Nil w w'
/-- what fill hands back -/
def GotFill (w : World) (e : Ending) (w' : World) : Prop :=
  ∃ (x d : Nat) (a : Option Addr) (m c : Nat) (z : Int) (F : Nat → Prop) (S : LogS) (B : List (List UInt8)), e = .returned (.tuple #[.pointer (some ⟨d, 0, none⟩), .pointer (some ⟨x, 0, none⟩), .slice a m c, .int .i64 z, .bool true]) ∧
    LogLD F w' x d S B [] ∧ Good B S ∧ (∀ k, F k → w.heap.size ≤ k ∧ k < w'.heap.size) ∧ Upd Nil w w'

theorem LRep.at_ {t : TypeId} {g : Bool} {F : Nat → Prop} {w : World} {s d : Nat} {S : LogS} (h : LRep t g F w s d S) : F s := by
  obtain ⟨_, _, _, h1, _⟩ := h
  exact h1
theorem LRep.inHeap {t : TypeId} {g : Bool} {F : Nat → Prop} {w : World} {s d : Nat} {S : LogS} (h : LRep t g F w s d S) : LRep t g (fun k => F k ∧ k < w.heap.size) w s d S := by
  obtain ⟨R, a, c, h1, h2, h3, h4⟩ := h
  exact ⟨R, a, c, ⟨h1, h3.lt⟩, fun k hk => ⟨⟨(h2 k hk).1, (h2 k hk).2.2⟩, (h2 k hk).2⟩, h3, h4⟩
/-- Append turns the log alone. -/
theorem log_Append_LD {F G : Nat → Prop} (w : World) {s d : Nat} {S : LogS} {B : List (List UInt8)} (h : LogLD F w s d S B []) (hf : LFine S) {ra : Option Addr} (rc : Nat) {r : List UInt8} (hr : Row G w ra (bvs r)) (hx : r.length ≤ 140737488355328) :
    Calls Tryd.prog 41 #[.pointer (some ⟨s, 0, none⟩), .slice ra r.length rc] w (LogLDGot F w s d (.tuple #[.int .i64 (appendN S r : Int), .int .i64 (appendC S r)]) (appendS S r) B []) := by
  obtain ⟨h0, FL, FD, hL, hD, hl, hd⟩ := h
  refine (log_Append w hl hf rc hr hx).mono ?_
  rintro e w' ⟨rfl, F', g1, g2, g3⟩
  have hz := g2.size
  have hsz : 0 < w.heap.size := Nat.lt_of_le_of_lt (Nat.zero_le _) (hL s hl.at_).2.2
  refine ⟨rfl, fun k => F k ∨ Fr w w' k, ⟨?_, fun k => F' k ∧ k < w'.heap.size, FD, fun k hk => ?_, fun k hk => ⟨.inl (hD k hk).1, by have := (hD k hk).2; omega⟩, g1.inHeap, hd.upd g2 (fun k h1 h2 => (hL k h2).2.1 h1)⟩, g2.mono (fun k hk => (hL k hk).1), fun _ hk => hk⟩
  · rintro (q | q)
    · exact h0 q
    · have := q.1; omega
  · rcases g3 k hk.1 with q | q
    · exact ⟨.inl (hL k q).1, (hL k q).2.1, hk.2⟩
    · exact ⟨.inr q, fun f => by have := (hD k f).2; have := q.1; omega, hk.2⟩

theorem fill_no {F E : Nat → Prop} (w : World) {A : Option Addr} {c0 : Nat} {vs : List Value} {B : List (List UInt8)} (hrow : Row F w A vs) (hall : All2 (Elem E w) vs B) (hl : B.length * 24 ≤ 140737488355328) (hx : ∀ x ∈ B, x.length ≤ 140737488355328) (hs : ¬ Sound B) (a : Option Addr) (n c : Nat) :
    Calls Tryd.prog 47 #[.slice A B.length c0, .slice a n c] w (NoFill w) := by
  have HR := Lib.hid hrow
  have HA := Lib.hid hall
  have HX := Lib.hid hx
  have hl2 : B.length ≤ 5864062014805 := by omega
  clear hrow hall hx
  by_cases h0 : 1 ≤ B.length ∧ B.length ≤ 4096
  · have HN : Hid (¬ AllSize B) := Lib.hid (fun q => hs ⟨h0.1, h0.2, q⟩)
    obtain ⟨h1, h2⟩ := h0
    clear hs
    go_enter Tryd.func47, Tryd.ntmps47
    go_wp2_with (first
      | (go_at_call 80; refine (plainImage _ HR.out HA.out hl HX.out).mono ?_; rintro e w1 ⟨R1, E1, a1, c1, v1, rfl, g1, g2, g3, g4⟩; have H1 := Lib.hid g1; have H4 := Lib.hid g4; clear g1 g2 g3 g4)
      | (go_at_call 79; refine (disk_Of_other _ H1.out.own.row H1.out.all h1 h2 HN.out).mono ?_; rintro e w' ⟨rfl, rfl⟩))
    (try simp only [Exit.inBlock, Exit.then])
    refine bodyPost_ret (results_tmp5 rfl _ _ _) rfl ?_
    exact ⟨rfl, H4.out⟩
  · have HN : Hid (B.length < 1 ∨ 4096 < B.length) := Lib.hid (by omega)
    clear hs h0
    go_enter Tryd.func47, Tryd.ntmps47
    go_wp2_with (first
      | (go_at_call 80; refine (plainImage _ HR.out HA.out hl HX.out).mono ?_; rintro e w1 ⟨R1, E1, a1, c1, v1, rfl, g1, g2, g3, g4⟩; have H4 := Lib.hid g4; clear g1 g2 g3 g4)
      | (go_at_call 79; refine (disk_Of_no _ HN.out).mono ?_; rintro e w' ⟨rfl, rfl⟩))
    (try simp only [Exit.inBlock, Exit.then])
    refine bodyPost_ret (results_tmp5 rfl _ _ _) rfl ?_
    exact ⟨rfl, H4.out⟩

set_option maxRecDepth 100000 in
set_option maxHeartbeats 16000000 in
theorem fill_yes {F E : Nat → Prop} (w : World) {A : Option Addr} {c0 : Nat} {vs : List Value} {B : List (List UInt8)} (hrow : Row F w A vs) (hall : All2 (Elem E w) vs B) (hs : Sound B) {a : Option Addr} {n : Nat} (c : Nat) {d : Nat → Do3} (hc : Calls03 w a n d) (hn : n ≤ 4398046511104) (tab : Tab w) :
    Calls Tryd.prog 47 #[.slice A B.length c0, .slice a n c] w (GotFill w) := by
  obtain ⟨s1, s2, s3⟩ := hs
  have HR := Lib.hid hrow
  have HA := Lib.hid hall
  have HC := Lib.hid hc
  have HS := Lib.hid s3
  have HT := Lib.hid tab
  have hfine : Fine B [] := ⟨s1, s2, s3, fun _ h => by cases h⟩
  have HFi := Lib.hid hfine
  obtain ⟨m0, hm0⟩ : ∃ q, (splitL (openR B 0 B.length).2.2).1.length = q := ⟨_, rfl⟩
  have hm1 : m0 ≤ 458752 := by rw [← hm0]; exact opened_few hfine
  have HM0 := Lib.hid hm0
  have HG0 := Lib.hid (Good.opened hfine)
  obtain ⟨S0, hS0⟩ : ∃ S, openS B 0 B.length = S := ⟨_, rfl⟩
  obtain ⟨B0, hB0⟩ : ∃ X, applyP B (openW B 0 B.length) = X := ⟨_, rfl⟩
  rw [hS0, hB0] at HG0
  have HS0 := Lib.hid (And.intro hS0 hB0)
  obtain ⟨i0, hi, hz0, hz1, hz2⟩ := info_parts infoBytes
  have hi0 := Lib.hid (And.intro hi (And.intro hz0 (And.intro hz1 hz2)))
  clear hrow hall hc s3 tab hfine hm0 hS0 hB0 hi hz0 hz1 hz2
  go_enter Tryd.func47, Tryd.ntmps47
  go_wp2_with (first
    | (go_at_call 80; refine (plainImage _ HR.out HA.out (by omega) (fun x hx => by rw [HS.out x hx]; decide)).mono ?_; rintro e w1 ⟨R1, E1, a1, c1, v1, rfl, g1, g2, g3, g4⟩; have H1 := Lib.hid g1; have H4 := Lib.hid g4; clear g1 g2 g3 g4)
    | (go_at_call 79; refine (disk_Of_yes _ H1.out.own.row H1.out.all s1 s2 HS.out).mono ?_; rintro e w2 ⟨dd, FD, rfl, g1, g2, g3⟩; have HD := Lib.hid g1; have HFD := Lib.hid g2; have HU2 := Lib.hid (H4.out.trans g3 (fun _ f _ => f)); have HSc := Lib.hid (disk_Sectors w2 g1); clear g1 g2 g3)
    | (go_at_call 39; refine HSc.out.mono ?_; rintro e w' ⟨rfl, rfl⟩)
    | (go_at_call 38; refine (log_Open_yes w2 HD.out HFi.out (fun q => absurd (HFD.out 0 q).1 (by have := World.block_lt_of_cell? _ _ (HT.out 0 (by decide)); have := H4.out.size; omega)) (fr := 0) (sectors := B.length) s1 (by omega) (HT.out.upd HU2.out (fun f => f))).mono ?_; intro e w3 hg; rw [HM0.out, HS0.out.1, HS0.out.2] at hg; obtain ⟨l, R2, E2, a2, c2, v2, rfl, F2, g1, g2, g3, g4, g5, _⟩ := hg; have HL := Lib.hid g1; have HU3 := Lib.hid g2; have HF3 := Lib.hid g3; have HRw := Lib.hid g4; have HR2 := Lib.hid g5; clear g1 g2 g3 g4 g5))
  go_loopg [12, 13, 40] n (fun k rv fv iv wr => ∃ j : Nat, j + k = n ∧ iv = .int .i64 (j : Int) ∧ (∃ z, fv = .int .i64 z) ∧ ∃ (a3 : Option Addr) (m c3 : Nat) (us : List Value) (R F' : Nat → Prop) (S : LogS) (B' : List (List UInt8)), rv = .slice a3 m c3 ∧ m ≤ 458752 + j ∧ Own R wr 22 1 a3 m c3 us ∧ (∀ k, R k → w.heap.size ≤ k ∧ k < wr.heap.size ∧ ¬ F' k) ∧ LogLD F' wr l dd S B' [] ∧ Good B' S ∧ (∀ k, F' k → w.heap.size ≤ k ∧ k < wr.heap.size) ∧ Upd Nil w wr)
  case atStart =>
    have z1 := H4.out.size
    have z2 := HU2.out.size
    have z3 := HU3.out.size
    have hFw : ∀ k, FD k → w.heap.size ≤ k ∧ k < w2.heap.size := fun k hk => ⟨by have := (HFD.out k hk).1; omega, (HFD.out k hk).2⟩
    refine ⟨0, by omega, rfl, ⟨_, rfl⟩, a2, m0, c2, v2, R2, F2, S0, B0, rfl, by omega, HRw.out.own, fun k hk => ⟨by have := (HR2.out k hk).1.1; omega, (HR2.out k hk).1.2, (HR2.out k hk).2⟩, HL.out, HG0.out, fun k hk => ?_, HU2.out.past HU3.out (fun k hk => (hFw k hk).1)⟩
    rcases HF3.out k hk with q | q
    · exact ⟨(hFw k q).1, by have := (hFw k q).2; omega⟩
    · exact ⟨by have := q.1; omega, q.2⟩
  case round =>
    obtain ⟨j, hjk, rfl, ⟨fz, rfl⟩, a3, m, c3, us, R, F', S, B', rfl, hm, hown, hR, hld, hgood, hF', hup⟩ := hrel
    have hjn : j ≤ n := by omega
    have HJ := Lib.hid hjk
    have HO := Lib.hid hown
    have HRr := Lib.hid hR
    have HLd := Lib.hid hld
    have HGd := Lib.hid hgood
    have HF' := Lib.hid hF'
    have HU := Lib.hid hup
    clear hjk hown hR hld hgood hF'
    by_cases hlt : j < n
    · obtain ⟨b, o, ab, cb, rfl, q0, q1, hrw, hnn, hlen, hcap⟩ := HC.out j hlt
      obtain ⟨⟨op, xs⟩, hdj⟩ : ∃ q, d j = q := ⟨_, rfl⟩
      rw [hdj] at q0 q1 hrw hlen hcap
      dsimp only at q0 q1 hrw hlen hcap
      have r0 := hup.cell q0 (fun f => f)
      have r1 := hup.cell q1 (fun f => f)
      have al : Upd Nil wr (wr.alloc (.cells #[.int .i64 op, .slice ab xs.length cb] 92)) := (Upd.refl Nil wr).alloc _
      have HAl := Lib.hid al
      have HXr := Lib.hid ((hrw.keep hup).keep al)
      have HTr := Lib.hid ((HT.out.upd hup (fun f => f)).upd al (fun f => f))
      have HLa := Lib.hid (HLd.out.keep al)
      have HOa := Lib.hid (HO.out.keep al)
      have HBx := Lib.hid (Blk.new wr 92 #[.int .i64 op, .slice ab xs.length cb])
      have HLen := Lib.hid hlen
      have hcap2 : xs.length ≤ 9223372036854775807 := by omega
      clear q0 q1 hrw hnn hdj hcap hup al hlen
      have hkind := kind3 op
      rcases hkind with hk | hk | hk | hk | hk
      · by_cases hap : appendC S xs = 0
        · have HAp : Hid (appendC S xs = 0 ∧ appendN S xs = S.last + 1 ∧ True) := Lib.hid ⟨hap, if_pos hap, trivial⟩
          clear hap
          go_wp2_with (first
            | (go_at_call 41; refine (log_Append_LD _ HLa.out HGd.out.fine cb HXr.out HLen.out).mono ?_; intro e w4 hg; rw [HAp.out.1, HAp.out.2.1] at hg; obtain ⟨rfl, F4, g1, g2, g3⟩ := hg; have HL4 := Lib.hid g1; have HV4 := Lib.hid g2; have HF4 := Lib.hid g3; have hb4 := HBx.out.upd g2 (fun q => absurd (HF'.out _ q).2 (Nat.lt_irrefl _)); have m1 : w4.cell? ⟨wr.heap.size, 1, none⟩ = some (.slice ab xs.length cb) := hb4.cell 1; clear g1 g2 g3 hb4)
            | (go_at_call 13; refine (bytesClone _ cb (HXr.out.upd HV4.out (fun k hk f => by have h1 : k < w.heap.size := hk; have := (HF'.out k f).1; omega)) HLen.out).mono ?_; rintro e w5 ⟨a5, c5, rfl, g1, g2⟩; have HU5 := Lib.hid g2; clear g1 g2)
            | (at_builtin; refine wpList_append_Own rfl (.tmp 61) (.tmp 65) 59 rfl Tryd.underlying59 hi0.out.1 hi0.out.2.1 hi0.out.2.2.1 hi0.out.2.2.2 rfl (by decide) rfl ((((HOa.out.upd HV4.out (fun k h1 h2 => (HRr.out k h1).2.2 h2))).keep HU5.out).alloc _) rfl (one_row w5 _ _) (by simp) (by simp [Value.oneCell']) (by intro h; cases h) (by simp only [maxLen]; omega) (by omega) ?_; intro a6 c6 w6 g1 g2 _; have HO6 := Lib.hid g1; have HU6 := Lib.hid g2; clear g1 g2))
          go_roundg (gk - 1)
          case measure => have := HJ.out; omega
          case rel =>
            have hj := HJ.out
            have z0 := HU.out.size
            have z1 := HAl.out.size
            have z4 := HV4.out.size
            have hF4 : ∀ k, F4 k → w.heap.size ≤ k ∧ k < w4.heap.size := fun k hk => by
              rcases HF4.out k hk with q | q
              · exact ⟨(HF'.out k q).1, by have := (HF'.out k q).2; omega⟩
              · exact ⟨by have := q.1; omega, q.2⟩
            have hU4 : Upd Nil w w4 := (HU.out.trans HAl.out (fun _ f _ => f)).past HV4.out (fun k hk => (HF'.out k hk).1)
            have hR4 : ∀ k, R k → w.heap.size ≤ k ∧ k < w4.heap.size ∧ ¬ F4 k := fun k hk => by
              obtain ⟨e1, e2, e3⟩ := HRr.out k hk
              refine ⟨e1, by omega, fun q => ?_⟩
              rcases HF4.out k q with q | q
              · exact e3 q
              · have := q.1; omega
            have z5 := HU5.out.size
            have z6 := HU6.out.size
            simp only [World.size_alloc] at z6
            refine ⟨j + 1, by omega, by go_num, ⟨_, rfl⟩, a6, m + 1, c6, _, _, F4, appendS S xs, B', rfl, by omega, HO6.out, ?_, ?_, HGd.out.append xs, fun k hk => ⟨(hF4 k hk).1, by have := (hF4 k hk).2; omega⟩, ((hU4.trans HU5.out (fun _ f _ => f)).alloc _).past HU6.out (fun k hk => (hR4 k hk).1)⟩
            · rintro k (h | ⟨h, h'⟩)
              · exact ⟨(hR4 k h).1, by have := (hR4 k h).2.1; omega, (hR4 k h).2.2⟩
              · simp only [World.size_alloc] at h
                exact ⟨by omega, h', fun q => by have := (hF4 k q).2; omega⟩
            · exact ((HL4.out.keep HU5.out).keep ((Upd.refl Nil w5).alloc _)).upd HU6.out (fun k h1 h2 => (hR4 k h2).2.2 h1)
        · have hap0 : (appendC S xs == 0) = false := by rw [beq_eq_false_iff_ne]; exact hap
          obtain ⟨ac, hac⟩ : ∃ q, appendC S xs = q := ⟨_, rfl⟩
          rw [hac] at hap0
          have HAp : Hid (appendC S xs = ac ∧ appendN S xs = appendN S xs ∧ True) := Lib.hid ⟨hac, rfl, trivial⟩
          clear hap hac
          go_wp2_with (go_at_call 41; refine (log_Append_LD _ HLa.out HGd.out.fine cb HXr.out HLen.out).mono ?_; intro e w4 hg; rw [HAp.out.1, HAp.out.2.1] at hg; obtain ⟨rfl, F4, g1, g2, g3⟩ := hg; have HL4 := Lib.hid g1; have HV4 := Lib.hid g2; have HF4 := Lib.hid g3; have hb4 := HBx.out.upd g2 (fun q => absurd (HF'.out _ q).2 (Nat.lt_irrefl _)); have m1 : w4.cell? ⟨wr.heap.size, 1, none⟩ = some (.slice ab xs.length cb) := hb4.cell 1; clear g1 g2 g3 hb4)
          go_roundg (gk - 1)
          case measure => have := HJ.out; omega
          case rel =>
            have hj := HJ.out
            have z0 := HU.out.size
            have z1 := HAl.out.size
            have z4 := HV4.out.size
            have hF4 : ∀ k, F4 k → w.heap.size ≤ k ∧ k < w4.heap.size := fun k hk => by
              rcases HF4.out k hk with q | q
              · exact ⟨(HF'.out k q).1, by have := (HF'.out k q).2; omega⟩
              · exact ⟨by have := q.1; omega, q.2⟩
            have hU4 : Upd Nil w w4 := (HU.out.trans HAl.out (fun _ f _ => f)).past HV4.out (fun k hk => (HF'.out k hk).1)
            have hR4 : ∀ k, R k → w.heap.size ≤ k ∧ k < w4.heap.size ∧ ¬ F4 k := fun k hk => by
              obtain ⟨e1, e2, e3⟩ := HRr.out k hk
              refine ⟨e1, by omega, fun q => ?_⟩
              rcases HF4.out k q with q | q
              · exact e3 q
              · have := q.1; omega
            exact ⟨j + 1, by omega, by go_num, ⟨_, rfl⟩, a3, m, c3, us, R, F4, appendS S xs, B', rfl, by omega, HOa.out.upd HV4.out (fun k h1 h2 => (HRr.out k h1).2.2 h2), hR4, HL4.out, HGd.out.append xs, hF4, hU4⟩
      · by_cases hap : appendC S xs = 0
        · have HAp : Hid (appendC S xs = 0 ∧ appendN S xs = S.last + 1 ∧ True) := Lib.hid ⟨hap, if_pos hap, trivial⟩
          clear hap
          go_wp2_with (first
            | (go_at_call 41; refine (log_Append_LD _ HLa.out HGd.out.fine cb HXr.out HLen.out).mono ?_; intro e w4 hg; rw [HAp.out.1, HAp.out.2.1] at hg; obtain ⟨rfl, F4, g1, g2, g3⟩ := hg; have HL4 := Lib.hid g1; have HV4 := Lib.hid g2; have HF4 := Lib.hid g3; have hb4 := HBx.out.upd g2 (fun q => absurd (HF'.out _ q).2 (Nat.lt_irrefl _)); have m1 : w4.cell? ⟨wr.heap.size, 1, none⟩ = some (.slice ab xs.length cb) := hb4.cell 1; clear g1 g2 g3 hb4)
            | (go_at_call 13; refine (bytesClone _ cb (HXr.out.upd HV4.out (fun k hk f => by have h1 : k < w.heap.size := hk; have := (HF'.out k f).1; omega)) HLen.out).mono ?_; rintro e w5 ⟨a5, c5, rfl, g1, g2⟩; have HU5 := Lib.hid g2; clear g1 g2)
            | (at_builtin; refine wpList_append_Own rfl (.tmp 61) (.tmp 65) 59 rfl Tryd.underlying59 hi0.out.1 hi0.out.2.1 hi0.out.2.2.1 hi0.out.2.2.2 rfl (by decide) rfl ((((HOa.out.upd HV4.out (fun k h1 h2 => (HRr.out k h1).2.2 h2))).keep HU5.out).alloc _) rfl (one_row w5 _ _) (by simp) (by simp [Value.oneCell']) (by intro h; cases h) (by simp only [maxLen]; omega) (by omega) ?_; intro a6 c6 w6 g1 g2 _; have HO6 := Lib.hid g1; have HU6 := Lib.hid g2; clear g1 g2))
          go_roundg (gk - 1)
          case measure => have := HJ.out; omega
          case rel =>
            have hj := HJ.out
            have z0 := HU.out.size
            have z1 := HAl.out.size
            have z4 := HV4.out.size
            have hF4 : ∀ k, F4 k → w.heap.size ≤ k ∧ k < w4.heap.size := fun k hk => by
              rcases HF4.out k hk with q | q
              · exact ⟨(HF'.out k q).1, by have := (HF'.out k q).2; omega⟩
              · exact ⟨by have := q.1; omega, q.2⟩
            have hU4 : Upd Nil w w4 := (HU.out.trans HAl.out (fun _ f _ => f)).past HV4.out (fun k hk => (HF'.out k hk).1)
            have hR4 : ∀ k, R k → w.heap.size ≤ k ∧ k < w4.heap.size ∧ ¬ F4 k := fun k hk => by
              obtain ⟨e1, e2, e3⟩ := HRr.out k hk
              refine ⟨e1, by omega, fun q => ?_⟩
              rcases HF4.out k q with q | q
              · exact e3 q
              · have := q.1; omega
            have z5 := HU5.out.size
            have z6 := HU6.out.size
            simp only [World.size_alloc] at z6
            refine ⟨j + 1, by omega, by go_num, ⟨_, rfl⟩, a6, m + 1, c6, _, _, F4, appendS S xs, B', rfl, by omega, HO6.out, ?_, ?_, HGd.out.append xs, fun k hk => ⟨(hF4 k hk).1, by have := (hF4 k hk).2; omega⟩, ((hU4.trans HU5.out (fun _ f _ => f)).alloc _).past HU6.out (fun k hk => (hR4 k hk).1)⟩
            · rintro k (h | ⟨h, h'⟩)
              · exact ⟨(hR4 k h).1, by have := (hR4 k h).2.1; omega, (hR4 k h).2.2⟩
              · simp only [World.size_alloc] at h
                exact ⟨by omega, h', fun q => by have := (hF4 k q).2; omega⟩
            · exact ((HL4.out.keep HU5.out).keep ((Upd.refl Nil w5).alloc _)).upd HU6.out (fun k h1 h2 => (hR4 k h2).2.2 h1)
        · have hap0 : (appendC S xs == 0) = false := by rw [beq_eq_false_iff_ne]; exact hap
          obtain ⟨ac, hac⟩ : ∃ q, appendC S xs = q := ⟨_, rfl⟩
          rw [hac] at hap0
          have HAp : Hid (appendC S xs = ac ∧ appendN S xs = appendN S xs ∧ True) := Lib.hid ⟨hac, rfl, trivial⟩
          clear hap hac
          go_wp2_with (go_at_call 41; refine (log_Append_LD _ HLa.out HGd.out.fine cb HXr.out HLen.out).mono ?_; intro e w4 hg; rw [HAp.out.1, HAp.out.2.1] at hg; obtain ⟨rfl, F4, g1, g2, g3⟩ := hg; have HL4 := Lib.hid g1; have HV4 := Lib.hid g2; have HF4 := Lib.hid g3; have hb4 := HBx.out.upd g2 (fun q => absurd (HF'.out _ q).2 (Nat.lt_irrefl _)); have m1 : w4.cell? ⟨wr.heap.size, 1, none⟩ = some (.slice ab xs.length cb) := hb4.cell 1; clear g1 g2 g3 hb4)
          go_roundg (gk - 1)
          case measure => have := HJ.out; omega
          case rel =>
            have hj := HJ.out
            have z0 := HU.out.size
            have z1 := HAl.out.size
            have z4 := HV4.out.size
            have hF4 : ∀ k, F4 k → w.heap.size ≤ k ∧ k < w4.heap.size := fun k hk => by
              rcases HF4.out k hk with q | q
              · exact ⟨(HF'.out k q).1, by have := (HF'.out k q).2; omega⟩
              · exact ⟨by have := q.1; omega, q.2⟩
            have hU4 : Upd Nil w w4 := (HU.out.trans HAl.out (fun _ f _ => f)).past HV4.out (fun k hk => (HF'.out k hk).1)
            have hR4 : ∀ k, R k → w.heap.size ≤ k ∧ k < w4.heap.size ∧ ¬ F4 k := fun k hk => by
              obtain ⟨e1, e2, e3⟩ := HRr.out k hk
              refine ⟨e1, by omega, fun q => ?_⟩
              rcases HF4.out k q with q | q
              · exact e3 q
              · have := q.1; omega
            exact ⟨j + 1, by omega, by go_num, ⟨_, rfl⟩, a3, m, c3, us, R, F4, appendS S xs, B', rfl, by omega, HOa.out.upd HV4.out (fun k h1 h2 => (HRr.out k h1).2.2 h2), hR4, HL4.out, HGd.out.append xs, hF4, hU4⟩
      · go_wp2_with (go_at_call 43; refine (log_Force _ HLa.out HGd.out.fine HGd.out.disk HGd.out.all HTr.out).mono ?_; intro e w4 hg; obtain ⟨rfl, F4, g1, g2, g3⟩ := hg; have HL4 := Lib.hid g1; have HV4 := Lib.hid g2; have HF4 := Lib.hid g3; clear g1 g2 g3)
        go_roundg (gk - 1)
        case measure => have := HJ.out; omega
        case rel =>
          have hj := HJ.out
          have z0 := HU.out.size
          have z1 := HAl.out.size
          have z4 := HV4.out.size
          have hF4 : ∀ k, F4 k → w.heap.size ≤ k ∧ k < w4.heap.size := fun k hk => by
            rcases HF4.out k hk with q | q
            · exact ⟨(HF'.out k q).1, by have := (HF'.out k q).2; omega⟩
            · exact ⟨by have := q.1; omega, q.2⟩
          have hU4 : Upd Nil w w4 := (HU.out.trans HAl.out (fun _ f _ => f)).past HV4.out (fun k hk => (HF'.out k hk).1)
          have hR4 : ∀ k, R k → w.heap.size ≤ k ∧ k < w4.heap.size ∧ ¬ F4 k := fun k hk => by
            obtain ⟨e1, e2, e3⟩ := HRr.out k hk
            refine ⟨e1, by omega, fun q => ?_⟩
            rcases HF4.out k q with q | q
            · exact e3 q
            · have := q.1; omega
          exact ⟨j + 1, by omega, by go_num, ⟨_, rfl⟩, a3, m, c3, us, R, F4, forceS S, _, rfl, by omega, HOa.out.upd HV4.out (fun k h1 h2 => (HRr.out k h1).2.2 h2), hR4, HL4.out, HGd.out.force, hF4, hU4⟩
      · by_cases hrs : resetC S = 0
        · have HRs := Lib.hid hrs
          clear hrs
          go_wp2_with (go_at_call 44; refine (log_Reset _ HLa.out HGd.out.fine HGd.out.disk HGd.out.all HTr.out).mono ?_; intro e w4 hg; rw [HRs.out] at hg; obtain ⟨rfl, F4, g1, g2, g3⟩ := hg; have HL4 := Lib.hid g1; have HV4 := Lib.hid g2; have HF4 := Lib.hid g3; clear g1 g2 g3)
          go_roundg (gk - 1)
          case measure => have := HJ.out; omega
          case rel =>
            have hj := HJ.out
            have z0 := HU.out.size
            have z1 := HAl.out.size
            have z4 := HV4.out.size
            have hF4 : ∀ k, F4 k → w.heap.size ≤ k ∧ k < w4.heap.size := fun k hk => by
              rcases HF4.out k hk with q | q
              · exact ⟨(HF'.out k q).1, by have := (HF'.out k q).2; omega⟩
              · exact ⟨by have := q.1; omega, q.2⟩
            have hU4 : Upd Nil w w4 := (HU.out.trans HAl.out (fun _ f _ => f)).past HV4.out (fun k hk => (HF'.out k hk).1)
            have hR4 : ∀ k, R k → w.heap.size ≤ k ∧ k < w4.heap.size ∧ ¬ F4 k := fun k hk => by
              obtain ⟨e1, e2, e3⟩ := HRr.out k hk
              refine ⟨e1, by omega, fun q => ?_⟩
              rcases HF4.out k q with q | q
              · exact e3 q
              · have := q.1; omega
            exact ⟨j + 1, by omega, by go_num, ⟨_, rfl⟩, none, 0, 0, [], Nil, F4, resetS S, _, rfl, Nat.zero_le _, Own.none_ _ _ _ _, fun _ f => f.elim, HL4.out, HGd.out.reset, hF4, hU4⟩
        · have hrs0 : (resetC S == 0) = false := by rw [beq_eq_false_iff_ne]; exact hrs
          obtain ⟨ac, hac⟩ : ∃ q, resetC S = q := ⟨_, rfl⟩
          rw [hac] at hrs0
          have HRs := Lib.hid hac
          clear hrs hac
          go_wp2_with (go_at_call 44; refine (log_Reset _ HLa.out HGd.out.fine HGd.out.disk HGd.out.all HTr.out).mono ?_; intro e w4 hg; rw [HRs.out] at hg; obtain ⟨rfl, F4, g1, g2, g3⟩ := hg; have HL4 := Lib.hid g1; have HV4 := Lib.hid g2; have HF4 := Lib.hid g3; clear g1 g2 g3)
          go_roundg (gk - 1)
          case measure => have := HJ.out; omega
          case rel =>
            have hj := HJ.out
            have z0 := HU.out.size
            have z1 := HAl.out.size
            have z4 := HV4.out.size
            have hF4 : ∀ k, F4 k → w.heap.size ≤ k ∧ k < w4.heap.size := fun k hk => by
              rcases HF4.out k hk with q | q
              · exact ⟨(HF'.out k q).1, by have := (HF'.out k q).2; omega⟩
              · exact ⟨by have := q.1; omega, q.2⟩
            have hU4 : Upd Nil w w4 := (HU.out.trans HAl.out (fun _ f _ => f)).past HV4.out (fun k hk => (HF'.out k hk).1)
            have hR4 : ∀ k, R k → w.heap.size ≤ k ∧ k < w4.heap.size ∧ ¬ F4 k := fun k hk => by
              obtain ⟨e1, e2, e3⟩ := HRr.out k hk
              refine ⟨e1, by omega, fun q => ?_⟩
              rcases HF4.out k q with q | q
              · exact e3 q
              · have := q.1; omega
            exact ⟨j + 1, by omega, by go_num, ⟨_, rfl⟩, a3, m, c3, us, R, F4, resetS S, _, rfl, by omega, HOa.out.upd HV4.out (fun k h1 h2 => (HRr.out k h1).2.2 h2), hR4, HL4.out, HGd.out.reset, hF4, hU4⟩
      · go_wp2
        go_roundg (gk - 1)
        case measure => have := HJ.out; omega
        case rel =>
          have hj := HJ.out
          have z1 := HAl.out.size
          exact ⟨j + 1, by omega, by go_num, ⟨_, rfl⟩, a3, m, c3, us, R, F', S, B', rfl, by omega, HOa.out, fun k hk => ⟨(HRr.out k hk).1, by have := (HRr.out k hk).2.1; omega, (HRr.out k hk).2.2⟩, HLa.out, HGd.out, fun k hk => ⟨(HF'.out k hk).1, by have := (HF'.out k hk).2; omega⟩, HU.out.trans HAl.out (fun _ f _ => f)⟩
    · obtain rfl : j = n := by omega
      go_wp2
      (try simp only [Exit.inBlock, Exit.then])
      refine bodyPost_ret (results_tmp5 rfl _ _ _) rfl ?_
      exact ⟨l, dd, a3, m, c3, fz, F', S, B', rfl, HLd.out, HGd.out, HF'.out, HU.out⟩

/-- the records of a disk are read off a copy -/
theorem law_records {F : Nat → Prop} (w : World) {d : Nat} {B : List (List UInt8)} (hd : DiskRep F w d B []) (hB : Fine B []) (tab : Tab w) :
    Calls Tryd.prog 48 #[.pointer (some ⟨d, 0, none⟩)] w (GotRows w (splitL (openR B 0 B.length).2.2).1) := by
  have HC := Lib.hid (disk_Copy w hd hB (Nat.zero_le _))
  have HD := Lib.hid hd
  have HB := Lib.hid hB
  have HT := Lib.hid tab
  have hpos := hB.pos
  have hsz : 0 < w.heap.size := World.block_lt_of_cell? _ _ (tab 0 (by decide))
  obtain ⟨l, hl⟩ : ∃ l, (splitL (openR B 0 B.length).2.2).1 = l := ⟨_, rfl⟩
  rw [hl]
  have HL := Lib.hid hl
  clear hd hB tab hl
  go_enter Tryd.func48, Tryd.ntmps48
  go_wp2_with (first
    | (go_at_call 81; refine HC.out.mono ?_; rintro e w1 ⟨s, F1, rfl, g1, g2, g3⟩; have H1 := Lib.hid g1; have H2 := Lib.hid g2; have H3 := Lib.hid g3; have HSc := Lib.hid (disk_Sectors w1 (HD.out.upd g3 (fun _ _ f => f))); clear g1 g2 g3)
    | (go_at_call 39; refine HSc.out.mono ?_; rintro e w' ⟨rfl, rfl⟩)
    | (go_at_call 38; refine (log_Open_yes w1 H1.out HB.out (fun q => by have := (H2.out 0 q).1; omega) (fr := 0) (sectors := B.length) hpos (by omega) (HT.out.upd H3.out (fun f => f))).mono ?_; intro e w2 hg; rw [HL.out] at hg; obtain ⟨x, R2, E2, a2, c2, v2, rfl, F2, g1, g2, g3, g4, g5, g6⟩ := hg; have HU := Lib.hid g2; have HRw := Lib.hid g4; have HR2 := Lib.hid g5; have HE2 := Lib.hid g6; clear g1 g2 g3 g4 g5 g6))
  go_ret
  have z1 := H3.out.size
  have z2 := HU.out.size
  exact ⟨R2, E2, a2, c2, v2, rfl, HRw.out, fun k hk => Fr.back z1 k (HR2.out k hk).1, fun k hk => Fr.back z1 k (HE2.out k hk).1, H3.out.past HU.out (fun k hk => (H2.out k hk).1)⟩
end Go.Proofs.YtbaombnnagidcaaDoor
