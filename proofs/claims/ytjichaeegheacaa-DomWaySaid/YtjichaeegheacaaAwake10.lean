
/-
  Law 10's example: branch, jump, trap; awake.
-/
import Derived.Test.YtjichaeegheacaaOrder
import Derived.Test.YtjichaeegheacaaCritical
import Derived.Test.YtjichaeegheacaaKit
namespace Go.Proofs.Ytjichaeegheacaa
open Go Go.RowKit

/-- A row of edges, as it reads. -/
structure RE (w : World) (A : Option Addr) (es : List Ed) : Prop where
  len : es.length ≤ 140737488355328
  rd : ∀ i, i < es.length → ∃ b off, A = some ⟨b, off, none⟩ ∧ b < w.heap.size ∧ ∀ W, Below w.heap.size w W → W.cell? ⟨b, off + i * 3, none⟩ = some (.int .i64 (gE es i).f) ∧ W.cell? ⟨b, off + i * 3 + 1, none⟩ = some (.int .i64 (gE es i).a) ∧ W.cell? ⟨b, off + i * 3 + 2, none⟩ = some (.int .i64 (gE es i).t)
theorem RE.below {w w' : World} {A : Option Addr} {es : List Ed} (h : RE w A es) (hb : Below w.heap.size w w') : RE w' A es :=
  ⟨h.len, fun i hi => by
    obtain ⟨b, off, e, hlt, hc⟩ := h.rd i hi
    exact ⟨b, off, e, Nat.lt_of_lt_of_le hlt hb.size, fun W hW => hc W (hb.trans (hW.mono hb.size))⟩⟩
theorem edCells_at : ∀ (es : List Ed) (i : Nat), i < es.length → (edCells es)[i * 3]? = some (.int .i64 (gE es i).f) ∧ (edCells es)[i * 3 + 1]? = some (.int .i64 (gE es i).a) ∧ (edCells es)[i * 3 + 2]? = some (.int .i64 (gE es i).t)
  | [], i, h => by cases h
  | e :: es, 0, _ => by simp [edCells, gE]
  | e :: es, i + 1, h => by
    have := edCells_at es i (by simpa using h)
    rw [show (i + 1) * 3 = i * 3 + 3 by omega, show i * 3 + 3 + 1 = i * 3 + 1 + 3 by omega, show i * 3 + 3 + 2 = i * 3 + 2 + 3 by omega]
    simpa [edCells, gE] using this
theorem own_RE {w : World} {base n : Nat} {v : Value} {es : List Ed} (h : w.ownsRow base 32 3 v n (edCells es)) (hl : es.length ≤ 140737488355328) :
    ∃ A c, v = .slice A es.length c ∧ es.length ≤ c ∧ RE w A es := by
  obtain ⟨h1, h2⟩ := h
  have hn : n = es.length := by rw [edCells_len] at h1; omega
  subst hn
  rcases h2 with ⟨rfl, h0⟩ | ⟨g, cap, cur, rfl, hg, hh, hc, hcap, hsz, htake⟩
  · have : es = [] := List.eq_nil_of_length_eq_zero h0
    subst this
    exact ⟨none, 0, rfl, Nat.le_refl _, ⟨by simp, fun i hi => by cases hi⟩⟩
  · refine ⟨some ⟨g, 0, none⟩, cap, rfl, hc, hl, fun i hi => ⟨g, 0, rfl, blk_lt hh, fun W hW => ?_⟩⟩
    have hh2 := blk_below hW hh (blk_lt hh)
    have key : ∀ j, j < es.length * 3 → cur[j]? = (edCells es)[j]? := fun j hj => by
      rw [← htake]
      simp [hj]
    obtain ⟨a1, a2, a3⟩ := edCells_at es i hi
    rw [Nat.zero_add]
    refine ⟨?_, ?_, ?_⟩
    · rw [cell_of_row W g (i * 3) cur _ (0, 0) hh2, key _ (by omega), a1]
    · rw [cell_of_row W g (i * 3 + 1) cur _ (0, 0) hh2, key _ (by omega), a2]
    · rw [cell_of_row W g (i * 3 + 2) cur _ (0, 0) hh2, key _ (by omega), a3]

/-- The example's blocks. -/
def bs10 : List Blk := [⟨.slice none 0 0, ⟨2, 1, 1, 2⟩⟩, ⟨.slice none 0 0, ⟨1, 0, 2, 0⟩⟩, ⟨.slice none 0 0, ⟨4, 0, 0, 0⟩⟩]
theorem closed10 : closedB bs10 = true := by kernel_rfl
theorem crit10 : someE bs10 (critB (edgesOf bs10)) = [⟨0, 1, 2⟩] := by kernel_rfl
theorem all10 : (someE bs10 fun _ => true).length = 3 := by kernel_rfl
theorem order10 : OrderIs bs10 [0, 1, 2] := by
  have e0 : suB bs10 0 = [1, 2] := by kernel_rfl
  have e1 : suB bs10 1 = [2] := by kernel_rfl
  have e2 : suB bs10 2 = [] := by kernel_rfl
  refine ⟨⟨withI (withI (withI 0 0) 1) 2, [0, 1, 2]⟩, ?_, rfl⟩
  refine .go (by kernel_rfl) (s1 := ⟨withI (withI (withI 0 0) 1) 2, [1, 2]⟩) ?_ (.nil _)
  rw [e0]
  refine .go (by kernel_rfl) (s1 := ⟨withI (withI (withI 0 0) 1) 2, [2]⟩) ?_ (.skip (by kernel_rfl) (.nil _))
  rw [e1]
  refine .go (by kernel_rfl) (s1 := ⟨withI (withI (withI 0 0) 1) 2, []⟩) ?_ (.nil _)
  rw [e2]
  exact .nil _
theorem order10_eq {l : List Int} (h : OrderIs bs10 l) : l = [0, 1, 2] := by
  obtain ⟨s, hs, rfl⟩ := h
  obtain ⟨s', hs', e⟩ := order10
  rw [← e, Thr.det hs hs']

theorem rf_lit {w : World} {g : Nat} {bs : List Blk} {cs : Array Value} {t : TypeId} (h : w.heap[g]? = some (.cells cs t (0, 0))) (hok : OkBs bs) (hone : ∀ i, i < bs.length → (gB bs i).ins.oneCell' = true) (hl : bs.length ≤ 4)
    (hc : ∀ k, k < 5 * bs.length → cs[k]? = some ((gB bs (k / 5)).cell (k % 5))) : RF w (some ⟨g, 0, none⟩) bs := by
  refine ⟨by omega, hok, hone, fun _ => ⟨g, 0, rfl, blk_lt h, fun k hk => ?_⟩⟩
  rw [cell_of_row w g _ cs t (0, 0) h, Nat.zero_add]
  exact hc k hk

end Go.Proofs.Ytjichaeegheacaa
