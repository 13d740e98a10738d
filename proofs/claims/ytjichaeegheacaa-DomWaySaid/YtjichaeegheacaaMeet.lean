
/-
  Package dom: a tree in memory: reached, meet.
-/
import Derived.Test.YtjichaeegheacaaMoves
import Derived.Test.YtjichaeegheacaaDomT
import Derived.Test.YtjichaeegheacaaGraph
import Derived.Test.YtjichaeegheacaaTree
import Derived.Test.YtjichaeegheacaaReached
namespace Go.Proofs.Ytjichaeegheacaa
open Go Go.RowKit

/-- The last one over it, as a block; -1: none. -/
def upI (l : List Int) (T : PTree) (i : Nat) : Int := match T i with | some j => gI l j | none => -1
/-- A tree over the places of an order, as two rows over the blocks. -/
structure TreeOk (l : List Int) (n : Nat) (T : PTree) (U Pl : List Int) : Prop where
  lu : U.length = n
  lp : Pl.length = n
  nle : n ≤ 200
  nd : l.Nodup
  rg : ∀ x ∈ l, 0 ≤ x ∧ x < n
  wf : WfT T
  tl : ∀ i, l.length ≤ i → T i = none
  pl : ∀ k, k < n → gI Pl k = placeI l (k : Int)
  up : ∀ i, i < l.length → gI U (gI l i).toNat = upI l T i
  out : ∀ k, k < n → (k : Int) ∉ l → gI U k = -1

theorem place_gI {l : List Int} (hn : l.Nodup) {i : Nat} (h : i < l.length) : placeI l (gI l i) = i := by
  refine placeI_at h rfl ?_
  cases hc : (l.take i).contains (gI l i) with
  | false => rfl
  | true =>
    rw [List.contains_iff_mem, List.mem_iff_getElem] at hc
    obtain ⟨j, hj, e⟩ := hc
    rw [List.getElem_take, gI_eq h] at e
    have hj2 : j < i := by simp at hj; omega
    exact absurd e (List.pairwise_iff_getElem.1 hn j i (by omega) h hj2)
theorem gI_inj {l : List Int} (hn : l.Nodup) {i j : Nat} (hi : i < l.length) (hj : j < l.length) (e : gI l i = gI l j) : i = j := by
  have h1 := place_gI hn hi
  rw [e, place_gI hn hj] at h1
  omega
theorem mem_place {l : List Int} {x : Int} (h : x ∈ l) : ∃ i, i < l.length ∧ gI l i = x ∧ placeI l x = i := by
  have hc : l.contains x = true := List.contains_iff_mem.2 h
  have hl := List.idxOf_lt_length_of_mem h
  refine ⟨l.idxOf x, hl, ?_, ?_⟩
  · rw [gI_eq hl]; exact List.getElem_idxOf hl
  · unfold placeI; rw [hc]; rfl

theorem TreeOk.nat {l : List Int} {n : Nat} {T : PTree} {U Pl : List Int} (h : TreeOk l n T U Pl) {i : Nat} (hi : i < l.length) : ∃ k : Nat, gI l i = (k : Int) ∧ k < n := by
  obtain ⟨h1, h2⟩ := h.rg _ (gI_mem hi)
  exact ⟨(gI l i).toNat, by omega, by omega⟩
theorem TreeOk.upk {l : List Int} {n : Nat} {T : PTree} {U Pl : List Int} (h : TreeOk l n T U Pl) {i k : Nat} (hi : i < l.length) (e : gI l i = (k : Int)) : gI U k = upI l T i ∧ gI Pl k = i := by
  have h1 := h.up i hi
  have hk : k < n := by
    obtain ⟨k2, e2, h2⟩ := h.nat hi
    omega
  have h2 := h.pl k hk
  rw [← e, place_gI h.nd hi] at h2
  rw [e] at h1
  exact ⟨by simpa using h1, h2⟩

def reachI (Pl : List Int) (b : Int) : Bool := inN b Pl.length && decide (0 ≤ gI Pl b.toNat)
theorem TreeOk.reach {l : List Int} {n : Nat} {T : PTree} {U Pl : List Int} (h : TreeOk l n T U Pl) {b : Int} (hb : I64 b) : reachI Pl b = true ↔ b ∈ l := by
  unfold reachI
  rw [Bool.and_eq_true, h.lp, inN_iff hb h.nle, decide_eq_true_iff]
  constructor
  · rintro ⟨⟨h1, h2⟩, h3⟩
    rw [h.pl _ (by omega), show ((b.toNat : Nat) : Int) = b by omega] at h3
    exact placeI_nonneg.1 h3
  · intro hm
    have hr := h.rg b hm
    refine ⟨hr, ?_⟩
    rw [h.pl _ (by omega), show ((b.toNat : Nat) : Int) = b by omega]
    exact placeI_nonneg.2 hm

set_option maxRecDepth 100000 in
set_option maxHeartbeats 1000000 in
theorem reached_any (V : Value) (Ap : Option Addr) (cp : Nat) (Pl : List Int) (b : Int) (w : World) (hb : I64 b) (hp : RI w Ap Pl) :
    Calls Try.prog 22 #[.agg #[V, .slice Ap Pl.length cp], .int .i64 b] w (Fresh w (.bool (reachI Pl b))) := by
  have hb0 : Below w.heap.size w (w.alloc (.cells #[V, .slice Ap Pl.length cp] 57)) := (Below.refl _ _).alloc (Nat.le_refl _) _
  have hs := blk_new w (.cells #[V, .slice Ap Pl.length cp] 57)
  have c1 := (cell_of_row _ _ 1 _ _ _ hs).trans (show #[V, .slice Ap Pl.length cp][1]? = some (.slice Ap Pl.length cp) from rfl)
  have hpl := hp.len
  have hwl : IntKind.u64.wrap (Pl.length : Int) = (Pl.length : Int) := wrap_u64_in _ (by omega) (by omega)
  have hp' := hp.below hb0
  unfold reachI
  by_cases h1 : IntKind.u64.wrap b < (Pl.length : Int)
  · have d1 : decide (IntKind.u64.wrap b < (Pl.length : Int)) = true := decide_eq_true h1
    have hbb : 0 ≤ b ∧ b < Pl.length := by
      obtain ⟨q1, q2⟩ := hb
      have : IntKind.u64.wrap b = b % 18446744073709551616 := by simp [IntKind.wrap, IntKind.bits, IntKind.signed]
      rw [this] at h1
      omega
    obtain ⟨k, rfl⟩ : ∃ k : Nat, b = (k : Int) := ⟨b.toNat, by omega⟩
    have hk : k < Pl.length := by omega
    obtain ⟨bp, op, rfl, hbp, hcp, hxp⟩ := hp'.at_ hk
    rw [show inN (k : Int) Pl.length = true from d1, Bool.true_and, show ((k : Int)).toNat = k by omega]
    clear hp hp'
    generalize gI Pl k = x at *
    by_cases h0 : 0 ≤ x
    · have d0 : decide (0 ≤ x) = true := decide_eq_true h0
      have d0' : decide (x ≥ 0) = true := decide_eq_true h0
      rw [d0]
      go_enter Try.func22, Try.ntmps22
      go_wp2
      go_ret
      exact ⟨rfl, hb0⟩
    · have d0 : decide (0 ≤ x) = false := decide_eq_false h0
      have d0' : decide (x ≥ 0) = false := decide_eq_false h0
      rw [d0]
      go_enter Try.func22, Try.ntmps22
      go_wp2
      go_ret
      exact ⟨rfl, hb0⟩
  · have d1 : decide (IntKind.u64.wrap b < (Pl.length : Int)) = false := decide_eq_false h1
    rw [show inN b Pl.length = false from d1, Bool.false_and]
    go_enter Try.func22, Try.ntmps22
    go_wp2
    go_ret
    exact ⟨rfl, hb0⟩

set_option maxRecDepth 100000 in
set_option maxHeartbeats 2000000 in
theorem meet_any (l : List Int) (n : Nat) (T : PTree) (U Pl : List Int) (hT : TreeOk l n T U Pl) (Au Ap : Option Addr) (cu cp : Nat) (w : World) (hu : RI w Au U) (hp : RI w Ap Pl) (i0 j0 : Nat) (hi0 : i0 < l.length) (hj0 : j0 < l.length) (di : Dn T i0) (dj : Dn T j0) :
    Calls Try.prog 23 #[.agg #[.slice Au U.length cu, .slice Ap Pl.length cp], .int .i64 (gI l i0), .int .i64 (gI l j0)] w (Fresh w (.int .i64 (gI l (meetF T (i0 + j0) i0 j0)))) := by
  have hb0 : Below w.heap.size w (w.alloc (.cells #[.slice Au U.length cu, .slice Ap Pl.length cp] 57)) := (Below.refl _ _).alloc (Nat.le_refl _) _
  have hs := blk_new w (.cells #[.slice Au U.length cu, .slice Ap Pl.length cp] 57)
  go_enter Try.func23, Try.ntmps23
  go_wp2
  go_loopw [1, 2] (fun a b wr => ∃ i j f : Nat, i + j ≤ f ∧ i < l.length ∧ j < l.length ∧ Dn T i ∧ Dn T j ∧ a = .int .i64 (gI l i) ∧ b = .int .i64 (gI l j) ∧ meetF T f i j = meetF T (i0 + j0) i0 j0 ∧ Below w.heap.size w wr ∧ wr.heap[w.heap.size]? = some (.cells #[.slice Au U.length cu, .slice Ap Pl.length cp] 57 (0, 0))) (fun a b _ => (placeI l (intOf a) + placeI l (intOf b)).toNat)
  case atStart => exact ⟨i0, j0, _, Nat.le_refl _, hi0, hj0, di, dj, rfl, rfl, rfl, hb0, hs⟩
  case round =>
    obtain ⟨i, j, f, hf, hi, hj, dni, dnj, rfl, rfl, hm, hB, hbox⟩ := hrel
    clear hs hb0
    obtain ⟨ki, eki, hki⟩ := hT.nat hi
    obtain ⟨kj, ekj, hkj⟩ := hT.nat hj
    have hwlt := blk_lt hbox
    by_cases e : i = j
    · subst e
      have : f = 0 ∨ ∃ f', f = f' + 1 := by cases f with | zero => exact .inl rfl | succ f => exact .inr ⟨f, rfl⟩
      have hm2 : meetF T f i i = i := by
        rcases this with rfl | ⟨f', rfl⟩
        · rfl
        · unfold meetF; rw [if_pos rfl]
      rw [hm2] at hm
      have hm3 := Lib.hid hm
      clear hm hm2 this
      have hd : ((gI l i : Int) != gI l i) = false := by simp
      go_wp2
      go_ret
      exact ⟨by rw [← hm3.out]; rfl, hB⟩
    · have hne : gI l i ≠ gI l j := fun q => e (gI_inj hT.nd hi hj q)
      have hd : (gI l i != gI l j) = true := by simpa using hne
      obtain ⟨f', rfl⟩ : ∃ f', f = f' + 1 := ⟨f - 1, by omega⟩
      rw [show meetF T (f' + 1) i j = (if i = j then i else if j < i then meetF T f' ((T i).getD 0) j else meetF T f' i ((T j).getD 0)) from rfl, if_neg e] at hm
      have hmi := place_gI hT.nd hi
      have hmj := place_gI hT.nd hj
      have hmeas : (placeI l (gI l i) + placeI l (gI l j)).toNat = i + j := by rw [hmi, hmj]; omega
      obtain ⟨u1, p1⟩ := hT.upk hi eki
      obtain ⟨u2, p2⟩ := hT.upk hj ekj
      have hu' := hu.below hB
      have hp' := hp.below hB
      obtain ⟨bu, ou, rfl, hbu, hcu1, hxu1⟩ := hu'.at_ (k := ki) (by rw [hT.lu]; exact hki)
      obtain ⟨_, _, e2, _, hcu2, hxu2⟩ := hu'.at_ (k := kj) (by rw [hT.lu]; exact hkj)
      cases e2
      obtain ⟨bp, op, rfl, hbp, hcp1, hxp1⟩ := hp'.at_ (k := ki) (by rw [hT.lp]; exact hki)
      obtain ⟨_, _, e2, _, hcp2, hxp2⟩ := hp'.at_ (k := kj) (by rw [hT.lp]; exact hkj)
      cases e2
      have hlu := hT.lu
      have hlp := hT.lp
      have hnle := hT.nle
      rw [p1] at hcp1
      rw [p2] at hcp2
      rw [u1] at hcu1
      rw [u2] at hcu2
      have c0 := (cell_of_row _ _ 0 _ _ _ hbox).trans (show #[Value.slice (some ⟨bu, ou, none⟩) U.length cu, .slice (some ⟨bp, op, none⟩) Pl.length cp][0]? = some (.slice (some ⟨bu, ou, none⟩) U.length cu) from rfl)
      have c1 := (cell_of_row _ _ 1 _ _ _ hbox).trans (show #[Value.slice (some ⟨bu, ou, none⟩) U.length cu, .slice (some ⟨bp, op, none⟩) Pl.length cp][1]? = some (.slice (some ⟨bp, op, none⟩) Pl.length cp) from rfl)
      have c1' : ∀ W, Below wr.heap.size wr W → W.cell? ⟨w.heap.size, 1, none⟩ = some (.slice (some ⟨bp, op, none⟩) Pl.length cp) := fun W hW => (hW.cell (p := ⟨w.heap.size, 1, none⟩) hwlt).trans c1
      have cp1' : ∀ W, Below wr.heap.size wr W → W.cell? ⟨bp, op + ki, none⟩ = some (.int .i64 (i : Int)) := fun W hW => (hW.cell (p := ⟨bp, op + ki, none⟩) hbp).trans hcp1
      have cp2' : ∀ W, Below wr.heap.size wr W → W.cell? ⟨bp, op + kj, none⟩ = some (.int .i64 (j : Int)) := fun W hW => (hW.cell (p := ⟨bp, op + kj, none⟩) hbp).trans hcp2
      have hm' := Lib.hid hm
      have eki' := Lib.hid eki
      have ekj' := Lib.hid ekj
      have hmeas' := Lib.hid hmeas
      have hu0 := Lib.hid hlu
      have hp0 := Lib.hid hlp
      have hkiU : ki < U.length := by omega
      have hkjU : kj < U.length := by omega
      have hkiP : ki < Pl.length := by omega
      have hkjP : kj < Pl.length := by omega
      have hUl : U.length ≤ 200 := by omega
      have hPl : Pl.length ≤ 200 := by omega
      clear hm hmi hmj hmeas u1 u2 p1 p2 hu' hp' hu hp hlu hlp hne
      rw [eki, ekj] at hd ⊢
      clear eki ekj
      generalize U.length = lu at *
      generalize Pl.length = lp at *
      go_wp2
      change Code.wp _ _ _ (Act.mk _ _) _
      refine wp_region_quiet_below (by kernel_rfl) (by kernel_rfl) ?_
      repeat (first
        | go_big_quiet_skip
        | (go_big_quiet_want; first
            | (go_big_quiet_op; go_big_quiet_on)
            | ((first
                | refine q_go ⟨_, ⟨0, #[]⟩, rfl⟩ (fun K' hk => q_loadS _ _ rfl ⟨w.heap.size, 1, none⟩ rfl _ Try.underlying22 _ (fun W hW => c1' W (below_of_grow hW)) hk) ?_
                | refine q_go ⟨_, ⟨0, #[]⟩, rfl⟩ (fun K' hk => q_load1 _ _ rfl ⟨bp, op + ki, none⟩ rfl _ Try.underlying3 _ (fun W hW => cp1' W (below_of_grow hW)) hk) ?_
                | refine q_go ⟨_, ⟨0, #[]⟩, rfl⟩ (fun K' hk => q_load1 _ _ rfl ⟨bp, op + kj, none⟩ rfl _ Try.underlying3 _ (fun W hW => cp2' W (below_of_grow hW)) hk) ?_); go_big_quiet_op; go_big_quiet_on)))
      refine wpQuiet_nil ?_
      intro W7 hW7'
      have hW7 := below_of_grow hW7'
      clear hW7' c1' cp1' cp2'
      have hB7 := hB.trans (hW7.mono hB.size)
      have hbox7 := blk_below hW7 hbox (blk_lt hbox)
      have d0 := (hW7.cell (p := ⟨w.heap.size, 0, none⟩) hwlt).trans c0
      have du1 := (hW7.cell (p := ⟨bu, ou + ki, none⟩) hbu).trans hcu1
      have du2 := (hW7.cell (p := ⟨bu, ou + kj, none⟩) hbu).trans hcu2
      clear hW7 hbox c0 c1 hcu1 hcu2 hcp1 hcp2
      by_cases hlt : j < i
      · obtain ⟨i', hi'⟩ : ∃ i', T i = some i' := dni.resolve_left (by omega)
        have hl := hT.wf.lt _ _ hi'
        have hdn := hT.wf.on _ _ hi'
        rw [show upI l T i = gI l i' by unfold upI; rw [hi']] at du1
        have hm2 := hm'.out
        rw [if_pos hlt, hi'] at hm2
        have hm3 := Lib.hid hm2
        have q1 : decide ((i : Int) > (j : Int)) = true := decide_eq_true (by omega)
        have q2 : decide ((j : Int) < (i : Int)) = true := decide_eq_true (by omega)
        have hrel2 := Lib.hid (show gI l j = (kj : Int) from ekj'.out)
        clear hm2 hm' hi'
        go_wp2
        go_roundw
        case rel => exact ⟨i', j, f', by omega, by omega, hj, hdn, dnj, rfl, by rw [hrel2.out], hm3.out, hB7, hbox7⟩
        case measure =>
          have h1 := place_gI hT.nd (show i' < l.length by omega)
          have h2 := place_gI hT.nd hi
          have h3 := place_gI hT.nd hj
          rw [eki'.out] at h2
          rw [ekj'.out] at h3
          simp only [intOf]
          rw [h1, h2, h3]
          omega
      · obtain ⟨j', hj'⟩ : ∃ j', T j = some j' := dnj.resolve_left (by omega)
        have hl := hT.wf.lt _ _ hj'
        have hdn := hT.wf.on _ _ hj'
        rw [show upI l T j = gI l j' by unfold upI; rw [hj']] at du2
        have hm2 := hm'.out
        rw [if_neg hlt, hj'] at hm2
        have hm3 := Lib.hid hm2
        have q1 : decide ((i : Int) > (j : Int)) = false := decide_eq_false (by omega)
        have q2 : decide ((j : Int) < (i : Int)) = false := decide_eq_false (by omega)
        clear hm2 hm' hj'
        go_wp2
        go_roundw
        case rel => exact ⟨i, j', f', by omega, hi, by omega, dni, hdn, by rw [eki'.out], rfl, hm3.out, hB7, hbox7⟩
        case measure =>
          have h1 := place_gI hT.nd (show j' < l.length by omega)
          have h2 := place_gI hT.nd hi
          have h3 := place_gI hT.nd hj
          rw [eki'.out] at h2
          rw [ekj'.out] at h3
          simp only [intOf]
          rw [h1, h2, h3]
          omega

end Go.Proofs.Ytjichaeegheacaa
