/- What the disk laws' arguments read as: a slice of calls, of places, of bools. -/
import Derived.Test.YtbaombnnagidcaaWritten
import Derived.Test.YtbaombnnagidcaaClose
namespace Go.Proofs.Ytbaombnnagidcaa
open Go.RowKit Go.Deep Go.WideShapes Go.ChangeShapes Go.ChangeAt

theorem cells0291 : Try.prog.cellsOf 91 = 4 := by kernel_rfl
theorem cells023 : Try.prog.cellsOf 3 = 1 := by kernel_rfl
theorem cells025 : Try.prog.cellsOf 5 = 1 := by kernel_rfl
theorem cells024 : Try.prog.cellsOf 4 = 1 := by kernel_rfl
theorem cells0225 : Try.prog.cellsOf 25 = 1 := by kernel_rfl
theorem cells0268 : Try.prog.cellsOf 68 = 1 := by kernel_rfl

section
variable {H : Type} {enc : TypeId × Value → H} {w : World} {spare : Nat → Bool} {held : Bool}

/-- a slice of ints -/
theorem open_ints {P : Program} {t e : TypeId} {fuel : Nat} {cs : List Value} {x : DataW H × List MemPlace} (ht : P.underlying t = some (.slice e)) (he : P.underlying e = some (.int .i64)) (hc : P.cellsOf e = 1)
    (h : DataW.trod enc P w 0 spare held fuel t cs = some x) (hb : P.bytesOf e = 8) (hfit : Fit P t x.1) : ∃ a ks c, cs = [.slice a ks.length c] ∧ Row (Old w) w a (ivs ks) ∧ ks.length * 8 ≤ reachBytes := by
  obtain ⟨a, n, c, m, V, D, rfl, h1, h2, h3, h4, h5, h6⟩ := open_cells ht hc h
  have each : ∀ i, i < n → ∃ b : Int, V i = .int .i64 b := fun i hi => by
    obtain ⟨pl, hp⟩ := h5 i hi
    obtain ⟨z, hz, hw, _⟩ := trod_int_inv he hp
    exact ⟨z, hz⟩
  obtain ⟨f, hf⟩ := choose_lt each
  have hl : ((List.range n).map f).length = n := by simp
  have hbv : ivs ((List.range n).map f) = (List.range n).map V := by
    rw [ivs, List.map_map]
    exact List.map_congr_left fun i hi => (hf i (List.mem_range.1 hi)).symm
  refine ⟨a, (List.range n).map f, c, by rw [hl], by rw [hbv]; exact h4, ?_⟩
  rw [hl]
  rcases h6 with ⟨_, rfl⟩ | ⟨sp, h6⟩
  · omega
  · rw [h6] at hfit
    have := (hfit.slice ht).1
    rw [hb] at this
    simp at this
    omega

set_option maxRecDepth 100000 in
theorem openCalls02 {fuel : Nat} {cs : List Value} {x : DataW H × List MemPlace} (h : DataW.trod enc Try.prog w 0 spare held fuel 64 cs = some x) (hfit : Fit Try.prog 64 x.1) :
    ∃ a n c d, cs = [.slice a n c] ∧ Calls02 w a n d ∧ n * 64 ≤ reachBytes := by
  rcases open_slice Try.underlying64 h with ⟨rfl, rfl⟩ | ⟨a, n, c, m, k, D, Pl, rfl, _, hl, hm, hmm, rfl, hx⟩
  · exact ⟨none, 0, 0, fun _ => (0, 0, [], []), rfl, fun j hj => absurd hj (Nat.not_lt_zero j), by omega⟩
  · have hnm : n ≤ m := by rw [hmm]; split <;> omega
    have hf0 := hfit.slice Try.underlying64
    have hf := hf0.2
    have hsz := hf0.1
    rw [show Try.prog.bytesOf 91 = 64 from by kernel_rfl] at hsz
    have hpl : 0 < n → ∃ b o, a = ⟨b, o, none⟩ := fun h0 => by
      obtain ⟨cs0, h1, _⟩ := hx 0 (by omega)
      rw [cells0291] at h1
      exact plain_base (by decide) h1
    have each : ∀ j, j < n → ∃ d : DoD, ∃ b o ab cb ak ck, some a = some ⟨b, o, none⟩ ∧ w.cell? ⟨b, o + j * 4, none⟩ = some (.int .i64 d.1) ∧ w.cell? ⟨b, o + j * 4 + 1, none⟩ = some (.int .i64 d.2.1) ∧
        w.cell? ⟨b, o + j * 4 + 2, none⟩ = some (.slice ab d.2.2.1.length cb) ∧ w.cell? ⟨b, o + j * 4 + 3, none⟩ = some (.slice ak d.2.2.2.length ck) ∧
        Row (Old w) w ab (bvs d.2.2.1) ∧ (ab = none → cb = 0) ∧ d.2.2.1.length ≤ 140737488355328 ∧ d.2.2.1.length ≤ cb ∧ Row (Old w) w ak (ivs d.2.2.2) ∧ d.2.2.2.length * 8 ≤ 140737488355328 := by
      intro j hj
      have hfj := hf (D j) (List.mem_map.2 ⟨j, List.mem_range.2 hj, rfl⟩)
      obtain ⟨cs', h1, h2⟩ := hx j (by omega)
      rw [cells0291] at h1
      obtain ⟨_, hlen, hcell⟩ := World.cells?_some h1
      obtain ⟨y0, y1, y2, y3, q, hD, _, g0, g1, g2, g3⟩ := Go.Joins.trod_struct4 Try.underlying91 h2
      have hDj : D j = .agg [y0.1, y1.1, y2.1, y3.1] := congrArg Prod.fst hD
      rw [hDj] at hfj
      match cs', hlen with
      | [v0, v1, v2, v3], _ =>
        have e0 := hcell 0 (by omega)
        have e1 := hcell 1 (by omega)
        have e2 := hcell 2 (by omega)
        have e3 := hcell 3 (by omega)
        simp only [cells023, cells0225, cells0268] at g0 g1 g2 g3
        obtain ⟨z0, rfl, _, _⟩ := trod_int_inv (v := v0) Try.underlying3 g0
        obtain ⟨z1, rfl, _, _⟩ := trod_int_inv (v := v1) Try.underlying3 g1
        obtain ⟨v, xs, hv, ⟨ab, cb, rfl, r1, r2, r3, r4⟩, hlx, _⟩ := open_bytes Try.underlying25 Try.underlying5 cells025 g2 (by kernel_rfl) (hfj.struct Try.underlying91 (j := 2) rfl rfl)
        obtain rfl : v2 = .slice ab xs.length cb := by simpa using hv
        obtain ⟨ak, ks, ck, hk, k1, k2⟩ := open_ints Try.underlying68 Try.underlying3 cells023 g3 (by kernel_rfl) (hfj.struct Try.underlying91 (j := 3) rfl rfl)
        obtain rfl : v3 = .slice ak ks.length ck := by simpa using hk
        rw [Go.Deep.add_add] at e0 e1 e2 e3
        obtain ⟨b, o, rfl⟩ := hpl (by omega)
        rw [Addr.add_lit] at e0 e1 e2 e3
        have hrb : reachBytes ≤ 140737488355328 := by decide
        refine ⟨(z0, z1, xs, ks), b, o, ab, cb, ak, ck, rfl, by simpa using e0, by simpa [Nat.add_assoc] using e1, by simpa [Nat.add_assoc] using e2, by simpa [Nat.add_assoc] using e3, r1, r2, by show xs.length ≤ _; omega, r3, k1, by show ks.length * 8 ≤ _; omega⟩
    obtain ⟨d, hd⟩ := choose_lt each
    refine ⟨some a, n, c, d, rfl, fun j hj => hd j hj, ?_⟩
    simp at hsz
    omega
end
end Go.Proofs.Ytbaombnnagidcaa
