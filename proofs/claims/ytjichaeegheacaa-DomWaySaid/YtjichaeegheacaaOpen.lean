
/-
  From the rows' readings to the walks' words: a slice of ints that came in; the table of package math/bits.
-/
import Derived.Test.YtjichaeegheacaaApp
import Derived.Test.YtjichaeegheacaaRows
import Derived.Test.YtjichaeegheacaaChecked
import Derived.ProofKit
import Derived.SizedLaws
import Derived.OpenShut
import Derived.Lay
import Derived.Lib.LaidU8
namespace Go.Proofs.Ytjichaeegheacaa
open Go Go.RowKit Go.ChangeShapes Go.WideShapes Go.ChangeAt

theorem own : ownKnob Try.prog.godebug = none := by kernel_rfl
theorem laidOut : laidOutB Try.prog = true := by kernel_rfl
theorem cellsInt : Try.prog.cellsOf 3 = 1 := by kernel_rfl
theorem bytesInt : Try.prog.bytesOf 3 = 8 := by kernel_rfl

theorem i64_of_wf {n : Int} (h : (Lit.int .i64 n).wf = true) : I64 n := bounds_i64 h

/-- An int that came in. -/
theorem open_I64 {H : Type} {enc : TypeId × Value → H} {W : World} {base : Nat} {v : Value} {d : DataW H} {p : List MemPlace} (hv : Value.okWide Try.prog W .any base 3 v)
    (h : DataW.Trod enc Try.prog W 0 (fun _ => true) true 3 v d p) : ∃ n, v = .int .i64 n ∧ I64 n := by
  obtain ⟨n, rfl, rfl, rfl, wa⟩ := open_int Try.underlying3 hv h
  exact ⟨n, rfl, i64_of_wf wa⟩

/-- A slice of ints that came in. -/
theorem open_SI {H : Type} {enc : TypeId × Value → H} {W : World} {base : Nat} {v : Value} {d : DataW H} {p : List MemPlace} (hv : Value.okWide Try.prog W .any base 22 v)
    (h : DataW.Trod enc Try.prog W 0 (fun _ => true) true 22 v d p) (hz : ∀ es sp : List (DataW H), d = .slice es sp → (es.length + sp.length) * 8 ≤ reachBytes) (hp : ∀ x ∈ p, x.block < W.heap.size) :
    ∃ A xs c, v = .slice A xs.length c ∧ SI W A c xs := by
  obtain ⟨a0, len, cap, rfl⟩ := okWide_slice Try.underlying22 hv
  have hok : Cell.ok Try.prog W .any base 22 (.slice a0 len cap) := by
    simpa [Value.okWide, Cell.okWide, Try.underlying22] using hv
  obtain ⟨fuel, hf⟩ := h
  rcases open_ints Try.underlying22 Try.underlying3 cellsInt hf with ⟨hcs, hx⟩ | ⟨a, len', cap', zs, hcs, _, hl, hm, hzl, hx, hcell, hwz⟩
  · simp [Value.cells] at hcs
    obtain ⟨rfl, rfl, rfl⟩ := hcs
    exact ⟨none, [], 0, rfl, RI.nil _ _, Nat.le_refl _, fun _ e => (by cases e), fun _ => rfl⟩
  · simp [Value.cells] at hcs
    obtain ⟨rfl, rfl, rfl⟩ := hcs
    have hzl' : zs.length = cap := by simpa using hzl
    simp only [Prod.mk.injEq] at hx
    obtain ⟨rfl, rfl⟩ := hx
    have hb := hz _ _ rfl
    have hbig : zs.length * 8 ≤ reachBytes := by
      simp [lits] at hb
      rw [hzl'] at hb ⊢
      rw [show min len cap + (cap - len) = cap by omega] at hb
      exact hb
    have hrl := reachBytes_lt
    have hlt : (zs.take len).length = len := by simp; omega
    have hsp : a.spot = none := by
      simp only [Cell.ok, Try.underlying22] at hok
      exact hok.2.2.2.1
    obtain ⟨b, off, spot⟩ := a
    simp only at hsp
    subst hsp
    refine ⟨some ⟨b, off, none⟩, zs.take len, cap, by rw [hlt], ⟨by rw [hlt]; omega, fun i hi => ?_, fun h0 => ⟨b, off, rfl, ?_, fun i hi => ?_⟩⟩, by rw [hlt]; exact hl, fun _ e => (by cases e; rfl), fun e => (by cases e)⟩
    · exact i64_of_wf (hwz _ (List.mem_of_mem_take (gI_mem hi)))
    · exact hp (.cell b off) (MemPlace.mem_row.2 ⟨0, by rw [hlt] at h0; omega, rfl⟩)
    · rw [hlt] at hi
      have := hcell i (by omega)
      rw [Go.WideShapes.add_plain] at this
      rw [this]
      simp [gI, hi, List.getD]

end Go.Proofs.Ytjichaeegheacaa
