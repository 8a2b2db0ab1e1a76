/- make: a row of noughts, of elements of one cell. -/
import Derived.Test.YtbaombnnagidcaaDoorGrow
import Derived.Laws.OwnMore
namespace Go.Proofs.YtbaombnnagidcaaDoor
open Go.RowKit

theorem run_make1 {P : Program} (t e : TypeId) {i : TypeInfo} {z : Value} {bytes : Nat} (ht : P.underlying t = some (.slice e)) (hi : P.info? e = some i) (hz : i.zero = some z) (hs : i.size = 1) (hb : i.bytes = bytes) (hc : z.cells = #[z])
    {n : Nat} (hbytes : bytes * n ≤ 281474976710656) (h63 : n ≤ 9223372036854775807) (w : World) :
    (Instr.makeSlice t (.int .i64 (n : Int)) (.int .i64 (n : Int))).run P w = .ok (.slice (some ⟨w.heap.size, 0, none⟩) n n) (w.alloc (.cells (Array.replicate n z) e)) := by
  have hr := run_make (P := P) w t e i z ht hi hz .i64 .i64 n n (by omega) (by omega) (by
    subst hb
    have h : ((i.bytes * n : Nat) : Int) ≤ 281474976710656 := by omega
    rwa [Int.natCast_mul] at h) (by omega)
  simp only [Int.toNat_natCast] at hr
  rw [hr, hs, hc, Nat.mul_one]
  congr 3
  apply Array.toList_inj.1
  rw [toList_madeCells_one, Array.toList_replicate]

/-- two results that lie in boxes -/
theorem results_cells2 {P : Program} {fn : Func} {p q : Tmp} {ty tz : TypeId} (h : fn.results = #[.cell p ty, .cell q tz]) {tmps : Array Value} {w : World} {a b : Addr} {u v : Value}
    (hp : tmps.getD p undef = .pointer (some a)) (hq : tmps.getD q undef = .pointer (some b)) (hty : (isAgg ty).run P w = .ok false w) (htz : (isAgg tz).run P w = .ok false w)
    (hu : w.cell? a = some u) (hv : w.cell? b = some v) : (results fn tmps).run P w = .ok (.tuple #[u, v]) w := by
  have hp' : tmps[p]?.getD undef = .pointer (some a) := by simpa using hp
  have hq' : tmps[q]?.getD undef = .pointer (some b) := by simpa using hq
  simp [results, h, loadVar, hp', hq', hty, htz, hu, hv, asAddr, go_sem]

theorem infoBool : (Tryd.prog.info? 4).map (fun i => (i.zero, i.size, i.bytes)) = some (some (.bool false), 1, 1) := by kernel_rfl

/-- make([]byte, n), for n as the walk spells it -/
theorem makeBytes {n : Nat} {z : Int} (hz : z = n) (hn : n ≤ 140737488355328) (w : World) :
    (Instr.makeSlice 22 (.int .i64 z) (.int .i64 z)).run Tryd.prog w = .ok (.slice (some ⟨w.heap.size, 0, none⟩) n n) (w.alloc (.cells (Array.replicate n (Value.int .u8 0)) 5)) := by
  subst hz
  obtain ⟨i0, hi, hz0, hz1, hz2⟩ := info_parts infoU8
  exact run_make1 _ _ Tryd.underlying22 hi hz0 hz1 hz2 rfl (by omega) (by omega) w

/-- a row of bytes just made -/
theorem own_zeros (w : World) {n : Nat} (hn : n ≤ maxLen) : Own (One w.heap.size) (w.alloc (.cells (Array.replicate n (Value.int .u8 0)) 5)) 5 1 (some ⟨w.heap.size, 0, none⟩) n n (bvs (List.replicate n 0)) := by
  have := Own.lit (t := 5) (sz := 1) w (Array.replicate n (Value.int .u8 0)) n hn (by simp)
  simpa [bvs, bv] using this
end Go.Proofs.YtbaombnnagidcaaDoor
