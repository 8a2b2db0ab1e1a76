/- WireBack: what is put together, numbers, texts and frames, reads back as it was, and what stands behind it stays; where the arguments are together of bulk at most 1048576. -/
import Derived.Test.YtbaombnnagidcaaDoorWireBack
import Derived.Test.YtbaombnnagidcaaDoorDoor
namespace Go.Proofs.YtbaombnnagidcaaDoor.wireBack
open Go.RowKit Go.Deep Go.WideShapes Go.ChangeShapes Go.ChangeAt Go.ChangeMaps

theorem bulk_slice {H : Type} (elems spare : List (DataW H)) : elems.length ≤ Rows.uptoBulk (.slice elems spare) := by
  have one : ∀ d : DataW H, 1 ≤ Rows.uptoBulk d := fun d => by
    cases d with
    | lit l => cases l <;> simp [Rows.uptoBulk]
    | nil => simp [Rows.uptoBulk]
    | ptr d => simp [Rows.uptoBulk]
    | slice elems spare => simp [Rows.uptoBulk]
    | agg parts => simp [Rows.uptoBulk]
    | iface t d => simp [Rows.uptoBulk]
    | map entries => simp [Rows.uptoBulk]
    | held h => simp [Rows.uptoBulk]
  have all : ∀ l : List (DataW H), l.length ≤ Rows.uptoBulkAll l := fun l => by
    induction l with
    | nil => simp [Rows.uptoBulkAll]
    | cons x r ih => have := one x; simp only [Rows.uptoBulkAll, List.length_cons]; omega
  have h1 := all elems
  simp only [Rows.uptoBulk]
  omega
theorem len_bulk {H : Type} {d : DataW H} {xs : List UInt8} (hd : d = .nil ∧ xs = [] ∨ ∃ es sp, d = .slice es sp ∧ es.length = xs.length) : xs.length ≤ Rows.uptoBulk d := by
  rcases hd with ⟨_, rfl⟩ | ⟨es, sp, rfl, he⟩
  · simp only [List.length_nil]; omega
  · have := bulk_slice es sp
    omega
theorem small {H : Type} {d0 d2 d3 : DataW H} {p r : List UInt8} {s : ByteArray} (h2 : d2 = .nil ∧ p = [] ∨ ∃ es sp, d2 = .slice es sp ∧ es.length = p.length) (h3 : d3 = .nil ∧ r = [] ∨ ∃ es sp, d3 = .slice es sp ∧ es.length = r.length) (h : Rows.uptoSmall H [d0, .lit (.string s.data.toList), d2, d3] = true) : s.size + p.length + r.length ≤ 1048576 := by
  have h := of_decide_eq_true h
  simp only [Rows.uptoBulkAll, Rows.uptoBulk] at h
  have hs : s.data.toList.length = s.size := size_toList s
  have b2 := len_bulk h2
  have b3 := len_bulk h3
  omega

set_option maxRecDepth 100000 in
theorem lawWalk (cond : (H : Type) → List (DataW H) → Prop) (hcond : ∀ H ds, cond H ds → Rows.uptoSmall H ds = true) : LawWalk 5 Tryd.f5 cond doorLaid := by
  intro H enc W args ds ps hval hA hfit hc hL
  rw [Tryd.params5] at hA hval hfit
  obtain ⟨v0, vs0, d0, ds0, p0, q0, hargs, rfl, rfl, h0, r0⟩ := trodAll_cons hA
  obtain ⟨v1, vs1, d1, ds1, p1, q1, rfl, rfl, rfl, h1, r1⟩ := trodAll_cons r0
  obtain ⟨v2, vs2, d2, ds2, p2, q2, rfl, rfl, rfl, h2, r2⟩ := trodAll_cons r1
  obtain ⟨v3, vs3, d3, ds3, p3, q3, rfl, rfl, rfl, h3, r3⟩ := trodAll_cons r2
  obtain ⟨rfl, rfl, rfl⟩ := trodAll_nil r3
  obtain rfl : args = #[v0, v1, v2, v3] := by cases args; simp_all
  obtain ⟨fuel2, h2⟩ := h2
  obtain ⟨fuel3, h3⟩ := h3
  obtain ⟨v, p, hv, hel, hlx, hd⟩ := open_bytes Tryd.underlying22 Tryd.underlying5 (by kernel_rfl) h2 (by kernel_rfl) (hfit 2 _ d2 rfl rfl)
  obtain ⟨v', r, hv', hel', hlx', hd'⟩ := open_bytes Tryd.underlying22 Tryd.underlying5 (by kernel_rfl) h3 (by kernel_rfl) (hfit 3 _ d3 rfl rfl)
  obtain ⟨base2, hok2⟩ := hval 2 _ v2 rfl rfl
  obtain ⟨a, c, rfl, hr, hac, hlc, hcm⟩ := hel
  obtain rfl := val_slice Tryd.underlying22 hok2 hv
  obtain ⟨base3, hok3⟩ := hval 3 _ v3 rfl rfl
  obtain ⟨b, d, rfl, hs, hbd, _⟩ := hel'
  obtain rfl := val_slice Tryd.underlying22 hok3 hv'
  obtain ⟨base0, hok0⟩ := hval 0 _ v0 rfl rfl
  obtain ⟨n, rfl, rfl, rfl, hwn⟩ := open_int Tryd.underlying3 hok0 h0
  obtain ⟨base1, hok1⟩ := hval 1 _ v1 rfl rfl
  obtain ⟨s, rfl, rfl, rfl, _⟩ := open_string Tryd.underlying9 hok1 h1
  have hn : n < 9223372036854775808 := by
    simp only [Lit.wf, Bool.and_eq_true, decide_eq_true_eq] at hwn
    have : n ≤ 9223372036854775807 := hwn.2
    omega
  exact walk W n hn s c d hr hac hlc hcm hs hbd (small hd hd' (hcond _ _ hc)) (tab_of hL)

theorem reads (os : Os) {H : Type} (enc : TypeId × Value → H) : ∃ places, DataW.whole enc Tryd.prog ((laidWorld os).forCall (fun _ _ => 0) ⟨#[], #[.int .i64 0, .string ⟨#[]⟩, .slice none 0 0, .slice none 0 0], []⟩).memory Tryd.f5.params.toList Rows.wireBackSpec.vars false (#[.int .i64 0, .string ⟨#[]⟩, .slice none 0 0, .slice none 0 0] : Array Value).toList 8 = some ([.lit (.int .i64 0), .lit (.string []), .nil, .nil], [], places) :=
  ⟨[], by kernel_rfl⟩
theorem laid_met (os : Os) : laidMet Tryd.prog Rows.wireBackUptoRow.laid ((laidWorld os).forCall (fun _ _ => 0) ⟨#[], #[.int .i64 0, .string ⟨#[]⟩, .slice none 0 0, .slice none 0 0], []⟩).memory :=
  laidMet_of_run' 8 (by kernel_rfl) (by kernel_rfl)

set_option maxRecDepth 100000 in
theorem lifted (os : Os) (started : os.Started) (H : Type) (enc : TypeId × Value → H) (F : Stop.Interp) :
    ReturnsInHanded {} Tryd.checked os 5 .any ((Rows.OpenSpec.upto Rows.wireBackSpec).preRow enc Tryd.prog Tryd.f5 Rows.wireBackUptoRow.domain false Rows.wireBackUptoRow.laid) (((Rows.OpenSpec.upto Rows.wireBackSpec).at F).post enc Tryd.prog Tryd.f5 false true false false) := by
  obtain ⟨places, hx⟩ := reads os enc
  refine returnsInHanded_of_row (C := Tryd.checked) (s := Rows.OpenSpec.upto Rows.wireBackSpec) own started (by kernel_rfl) Tryd.func5
    (witness_row_at (enc := enc) (C := Tryd.checked) false (laidWorld os) #[.int .i64 0, .string ⟨#[]⟩, .slice none 0 0, .slice none 0 0] rfl (by kernel_rfl) (by kernel_rfl) (by kernel_rfl)
      (OpenSpec.preRow_of_cond 8 hx (by kernel_rfl) (fun k hk => by cases hk; kernel_rfl) (by kernel_rfl) (laid_met os))) ?_
  intro W base args ds gs before hval hW _ hk hsz hL _ _
  exact law_contract (k := (Rows.OpenSpec.upto Rows.wireBackSpec).cond) (lawWalk (fun H ds => Rows.uptoSmall H ds = true) (fun _ _ h => h)) (fun H ds h => h _ rfl) (by decide +kernel) rfl rfl (fun H ds hd => by
    match ds, hd with
    | [_, _, _, _], _ => rfl) W base args ds gs before hval hW hk hsz hL

theorem said : Rows.WireBackUptoSaid :=
  OpenClaim.holds_of_cond 5 Tryd.f5 rfl rfl rfl rfl rfl rfl rfl ⟨rfl, rfl, rfl, rfl, rfl⟩ rfl rfl rfl rfl rfl (by kernel_rfl) Tryd.func5 (by kernel_rfl)
    (of_decide_eq_true (by kernel_rfl)) (by unfold Func.isWrapper; first | (rw [if_pos (by decide +kernel)]; kernel_rfl) | (rw [if_neg (by decide +kernel)]; exact ⟨rfl, rfl⟩))
    (fun os started H enc _ F => by rw [OpenClaim.pre_eq_preRow]; exact lifted os started H enc F)

/-- No parameter wants a stand-in; the program's own looks are off: what the card asks. -/
theorem plain (f : FuncId) (fn : Func) (hf : Tryd.pinned.checked.prog.funcNamed "rostrum/rostrumlaw01.WireBack" = some f) (hfn : Tryd.pinned.checked.prog.funcs[f]? = some fn) :
    false = Tryd.pinned.checked.prog.looks [] ∧ ∀ (j : Nat) t, fn.params[j]? = some t → Tryd.pinned.checked.prog.wantsStandIn t = false := by
  obtain rfl : f = 5 := Option.some.inj ((show Tryd.prog.funcNamed "rostrum/rostrumlaw01.WireBack" = some 5 by kernel_rfl).symm.trans hf) |>.symm
  obtain rfl : fn = Tryd.f5 := (Option.some.inj (Tryd.func5.symm.trans hfn)).symm
  refine ⟨by kernel_rfl, fun j t ht => ?_⟩
  rw [Tryd.params5] at ht
  have hm := Array.mem_of_getElem? ht
  simp only [List.mem_toArray, List.mem_cons, List.not_mem_nil, or_false] at hm
  rcases hm with rfl | rfl | rfl | rfl
  · exact (show Tryd.prog.wantsStandIn 3 = false by kernel_rfl)
  · exact (show Tryd.prog.wantsStandIn 9 = false by kernel_rfl)
  · exact (show Tryd.prog.wantsStandIn 22 = false by kernel_rfl)
  · exact (show Tryd.prog.wantsStandIn 22 = false by kernel_rfl)

/-- THE CARD. -/
theorem card : Rows.WireBackUptoCardSaid :=
  Claim7.holds_tied_plain_at .later [] _ _ _ _ said (fun _ h => by cases h) (by kernel_rfl) (fun _ h => by cases h) wireBackUpto_row_tie rfl ⟨rfl, rfl⟩ (by kernel_rfl) rfl plain (by kernel_rfl)
#print axioms card
end Go.Proofs.YtbaombnnagidcaaDoor.wireBack
