
/-
  From the rows' readings to the walks' words: a function that came in.
-/
import Derived.Test.YtjichaeegheacaaOpen
import Derived.Test.YtjichaeegheacaaCount
import Derived.Lib.SmallJoins
import Derived.Deep.Slices
namespace Go.Proofs.Ytjichaeegheacaa
open Go Go.RowKit Go.ChangeShapes Go.WideShapes Go.ChangeAt Go.Joins Go.Deep

theorem pick_list {α : Type} [Inhabited α] {Q : Nat → α → Prop} : ∀ n : Nat, (∀ i, i < n → ∃ x, Q i x) → ∃ l : List α, l.length = n ∧ ∀ i, i < n → Q i (l[i]?.getD default)
  | 0, _ => ⟨[], rfl, fun i hi => absurd hi (Nat.not_lt_zero _)⟩
  | n + 1, h => by
    obtain ⟨l, hl, hq⟩ := pick_list n fun i hi => h i (by omega)
    obtain ⟨x, hx⟩ := h n (by omega)
    refine ⟨l ++ [x], by simp [hl], fun i hi => ?_⟩
    by_cases e : i = n
    · subst e
      rw [List.getElem?_append_right (by omega), hl]
      simpa using hx
    · rw [List.getElem?_append_left (by omega)]
      exact hq i (by omega)

section
variable {H : Type} {enc : TypeId × Value → H} {W : World} {base : Nat} {sp : Nat → Bool} {held : Bool}

/-- The weights of a datum are within reach. -/
def InReach (P : Program) (t : TypeId) (d : DataW H) : Prop := (d.weights P t).all (· ≤ reachBytes) = true
theorem weights_all {P : Program} {e : TypeId} : ∀ {ds : List (DataW H)}, (DataW.weightsAll P e ds).all (· ≤ reachBytes) = true → ∀ d ∈ ds, InReach P e d
  | [], _, d, hd => by cases hd
  | x :: ds, h, d, hd => by
    simp only [DataW.weightsAll, List.all_append, Bool.and_eq_true] at h
    rcases List.mem_cons.1 hd with rfl | hd
    · exact h.1
    · exact weights_all h.2 d hd
theorem reach_slice {P : Program} {t e : TypeId} {es ss : List (DataW H)} (hu : P.underlying t = some (.slice e)) (h : InReach P t (.slice es ss)) : (es.length + ss.length) * P.bytesOf e ≤ reachBytes ∧ ∀ d ∈ es, InReach P e d := by
  unfold InReach at h
  simp only [DataW.weights, hu, List.all_cons, List.all_append, Bool.and_eq_true, decide_eq_true_eq] at h
  exact ⟨h.1, weights_all h.2.1⟩
theorem reach_agg2 {P : Program} {t : TypeId} {f0 f1 : Field} {a b : DataW H} (hu : P.underlying t = some (.struct #[f0, f1])) (h : InReach P t (.agg [a, b])) : InReach P f0.type a ∧ InReach P f1.type b := by
  unfold InReach at h
  simp only [DataW.weights, hu, DataW.weightsEach, List.map_cons, List.map_nil, List.all_append, Bool.and_eq_true] at h
  exact ⟨h.1, h.2.1⟩
theorem reach_agg {P : Program} {t : TypeId} {fs : Array Field} {ds : List (DataW H)} (hu : P.underlying t = some (.struct fs)) (h : InReach P t (.agg ds)) {j : Nat} {f : Field} {d : DataW H} (hf : fs[j]? = some f) (hd : ds[j]? = some d) : InReach P f.type d := by
  unfold InReach at h
  simp only [DataW.weights, hu] at h
  refine List.all_eq_true.2 fun n hn => ?_
  refine List.all_eq_true.1 h n (DataW.weights_mem_each (j := j) (t := f.type) (d := d) ?_ hd n hn)
  simp [hf]

theorem add_cell {a : Addr} {i : Nat} {v : Value} (h : W.cell? (a.add i) = some v) : a.add i = ⟨a.block, a.off + i, none⟩ := by
  have hs := World.cell?_spot h
  obtain ⟨b, o, s⟩ := a
  unfold Addr.add at hs ⊢
  split <;> simp_all

/-- Where a row of n cells an element begins. -/
theorem spot_row {a : Addr} {n : Nat} {cs : List Value} (hn : 0 < n) (h : W.cells? base (a.add (0 * n)) n = some cs) : a.spot = none := by
  obtain ⟨_, hl, hc⟩ := World.cells?_some h
  have h0 := (hc 0 hn).trans (List.getElem?_eq_getElem (by omega : 0 < cs.length))
  have := World.cell?_spot h0
  simpa [Addr.add] using this

set_option maxRecDepth 100000 in
/-- One instruction: where its arguments lie. -/
theorem open_ins {n : Nat} {t : TypeId} {cs : List Value} {x : DataW H × List MemPlace} (ht : t = 38) (h : DataW.trod enc Try.prog W base sp held n t cs = some x) (hz : InReach Try.prog 38 x.1) :
    ∃ v, cs = [v] ∧ v.oneCell' = true ∧ InsOk W v := by
  subst ht
  rcases open_slice Try.underlying38 h with ⟨rfl, _⟩ | ⟨a, len, cap, m, n', D, Pl, rfl, _, hl, _, hm, hx, hi⟩
  · exact ⟨_, rfl, rfl, none, 0, 0, rfl, by omega, fun k hk => absurd hk (Nat.not_lt_zero _)⟩
  · refine ⟨_, rfl, rfl, some a, len, cap, rfl, ?_, fun k hk => ?_⟩
    · rw [hx] at hz
      have := (reach_slice Try.underlying38 hz).1
      rw [show Try.prog.bytesOf 63 = 80 by kernel_rfl] at this
      have hr := reachBytes_lt
      simp at this
      omega
    · have hkm : k < m := by rw [hm]; split <;> omega
      obtain ⟨cs', hc, ht⟩ := hi k hkm
      rw [show Try.prog.cellsOf 63 = 8 by kernel_rfl] at hc
      obtain ⟨_, hcl, hcell⟩ := World.cells?_some hc
      obtain ⟨xs, n2, _, hx2, _, hxl, hf⟩ := DataW.trod_struct Try.underlying63 ht
      have h6 : DataW.trod enc Try.prog W base sp held n2 22 ((cs'.drop 6).take (Try.prog.cellsOf 22)) = xs[6]? := hf 6 _ rfl
      have hx6 : xs[6]? = some (xs[6]'(by rw [hxl]; decide)) := List.getElem?_eq_getElem _
      rw [hx6] at h6
      have hcs6 : (cs'.drop 6).take 1 = [cs'[6]'(by omega)] := by
        rw [List.drop_eq_getElem_cons (by omega)]; rfl
      rw [show Try.prog.cellsOf 22 = 1 by kernel_rfl] at h6
      rw [hcs6] at h6
      have hc6 := hcell 6 (by decide)
      rw [add_add, List.getElem?_eq_getElem (by omega)] at hc6
      have hda := add_cell hc6
      rw [hda] at hc6
      have hIn : InReach Try.prog 63 (D k) := by
        rw [hx] at hz
        exact (reach_slice Try.underlying38 hz).2 _ (List.mem_map.2 ⟨k, List.mem_range.2 hk, rfl⟩)
      have hD : D k = .agg (xs.map (·.1)) := (Prod.mk.inj hx2).1
      rw [hD] at hIn
      have hI6 : InReach Try.prog 22 (xs[6]'(by rw [hxl]; decide)).1 := reach_agg Try.underlying63 hIn (j := 6) rfl (by rw [List.getElem?_map, hx6]; rfl)
      have hsp : a.spot = none := by
        obtain ⟨cs0, hc0, _⟩ := hi 0 (by omega)
        rw [show Try.prog.cellsOf 63 = 8 by kernel_rfl] at hc0
        exact spot_row (by decide) hc0
      refine ⟨a.block, a.off, by cases a; simp_all, ?_, ?_⟩
      · have hlt := block_lt_of_cell hc6
        exact hlt
      · rcases open_slice Try.underlying22 h6 with ⟨e, _⟩ | ⟨a6, len6, cap6, m6, n6, D6, P6, e, _, _, _, _, hx6', _⟩
        · simp only [List.cons.injEq, and_true] at e
          rw [e] at hc6
          exact ⟨none, 0, 0, by rw [← Nat.add_assoc] at hc6; exact hc6, by omega⟩
        · simp only [List.cons.injEq, and_true] at e
          rw [e] at hc6
          refine ⟨some a6, len6, cap6, by rw [← Nat.add_assoc] at hc6; exact hc6, ?_⟩
          rw [hx6'] at hI6
          have := (reach_slice Try.underlying22 hI6).1
          rw [bytesInt] at this
          have hr := reachBytes_lt
          simp at this
          omega

/-- What is asked of one block, at its address. -/
def BlkAt (W : World) (a : Addr) (i : Nat) (b : Blk) : Prop :=
  b.t.ok ∧ b.ins.oneCell' = true ∧ (∀ j, j < 5 → W.cell? ⟨a.block, a.off + (5 * i + j), none⟩ = some (b.cell j)) ∧ InsOk W b.ins
set_option maxRecDepth 100000 in
theorem open_blk {n : Nat} {cs : List Value} {a : Addr} {i : Nat} {x : DataW H × List MemPlace} (hc : W.cells? base (a.add (i * 5)) 5 = some cs) (h : DataW.trod enc Try.prog W base sp held n 44 cs = some x) (hz : InReach Try.prog 44 x.1) :
    ∃ b, BlkAt W a i b := by
  obtain ⟨_, hcl, hcell⟩ := World.cells?_some hc
  obtain ⟨y0, y1, n2, hx, _, h0, h1⟩ := trod_struct2 Try.underlying44 h
  match cs, hcl with
  | [c0, c1, c2, c3, c4], _ =>
    have hI := reach_agg2 Try.underlying44 (by rw [hx] at hz; exact hz)
    have e0 : DataW.trod enc Try.prog W base sp held n2 38 [c0] = some y0 := by
      rw [← h0]
      show _ = DataW.trod enc Try.prog W base sp held n2 38 (([c0, c1, c2, c3, c4].drop 0).take (Try.prog.cellsOf 38))
      rw [show Try.prog.cellsOf 38 = 1 by kernel_rfl]
      rfl
    have e1 : DataW.trod enc Try.prog W base sp held n2 42 [c1, c2, c3, c4] = some y1 := by
      rw [← h1]
      show _ = DataW.trod enc Try.prog W base sp held n2 42 (([c0, c1, c2, c3, c4].drop 1).take (Try.prog.cellsOf 42))
      rw [show Try.prog.cellsOf 42 = 4 by kernel_rfl]
      rfl
    obtain ⟨v, hv, hone, hins⟩ := open_ins rfl e0 hI.1
    obtain rfl : c0 = v := by simpa using hv
    obtain ⟨xs, n3, _, hx3, _, hxl, hf⟩ := DataW.trod_struct Try.underlying42 e1
    have g : ∀ (j : Nat) (t : TypeId) (c : List Value) (hj : j < xs.length), DataW.trod enc Try.prog W base sp held n3 t c = xs[j]? → DataW.trod enc Try.prog W base sp held n3 t c = some (xs[j]'hj) := fun j t c hj h => h.trans (List.getElem?_eq_getElem hj)
    have f0 : DataW.trod enc Try.prog W base sp held n3 39 [c1] = xs[0]? := by
      have : DataW.trod enc Try.prog W base sp held n3 39 (([c1, c2, c3, c4].drop 0).take (Try.prog.cellsOf 39)) = xs[0]? := hf 0 _ rfl
      rw [show Try.prog.cellsOf 39 = 1 by kernel_rfl] at this
      exact this
    have f1 : DataW.trod enc Try.prog W base sp held n3 3 [c2] = xs[1]? := by
      have : DataW.trod enc Try.prog W base sp held n3 3 (([c1, c2, c3, c4].drop 1).take (Try.prog.cellsOf 3)) = xs[1]? := hf 1 _ rfl
      rw [cellsInt] at this
      exact this
    have f2 : DataW.trod enc Try.prog W base sp held n3 40 [c3, c4] = xs[2]? := by
      have : DataW.trod enc Try.prog W base sp held n3 40 (([c1, c2, c3, c4].drop 2).take (Try.prog.cellsOf 40)) = xs[2]? := hf 2 _ rfl
      rw [show Try.prog.cellsOf 40 = 2 by kernel_rfl] at this
      exact this
    have hx3l : xs.length = 3 := hxl
    obtain ⟨k, hk, _, wk⟩ := DataW.trod_int Try.underlying39 (g 0 _ _ (by omega) f0)
    obtain ⟨ta, hta, _, wa⟩ := DataW.trod_int Try.underlying3 (g 1 _ _ (by omega) f1)
    obtain ⟨ys, n4, _, _, _, hyl, hg⟩ := DataW.trod_array Try.underlying40 (g 2 _ _ (by omega) f2)
    have g0 : DataW.trod enc Try.prog W base sp held n4 3 [c3] = some (ys[0]'(by omega)) := by
      have := hg 0 (by decide)
      rw [cellsInt] at this
      exact this.trans (List.getElem?_eq_getElem _)
    have g1 : DataW.trod enc Try.prog W base sp held n4 3 [c4] = some (ys[1]'(by omega)) := by
      have := hg 1 (by decide)
      rw [cellsInt] at this
      exact this.trans (List.getElem?_eq_getElem _)
    obtain ⟨t0, ht0, _, w0⟩ := DataW.trod_int Try.underlying3 g0
    obtain ⟨t1, ht1, _, w1⟩ := DataW.trod_int Try.underlying3 g1
    simp only [List.cons.injEq, and_true] at hk hta ht0 ht1
    subst hk hta ht0 ht1
    refine ⟨⟨c0, ⟨k, ta, t0, t1⟩⟩, ⟨i64_of_wf wk, i64_of_wf wa, i64_of_wf w0, i64_of_wf w1⟩, hone, fun j hj => ?_, hins⟩
    have hcj := hcell j hj
    rw [add_add] at hcj
    have hv : [c0, .int .i64 k, .int .i64 ta, .int .i64 t0, .int .i64 t1][j]? = some ((Blk.mk c0 ⟨k, ta, t0, t1⟩).cell j) := by
      match j, hj with
      | 0, _ => rfl
      | 1, _ => rfl
      | 2, _ => rfl
      | 3, _ => rfl
      | 4, _ => rfl
    rw [hv] at hcj
    have hda := add_cell hcj
    rw [hda, Nat.mul_comm i 5] at hcj
    exact hcj

set_option maxRecDepth 100000 in
theorem open_fn {b0 : Nat} {v : Value} {d : DataW H} {p : List MemPlace} (hv : Value.okWide Try.prog W .any b0 25 v) (h : DataW.Trod enc Try.prog W base sp held 25 v d p) (hz : InReach Try.prog 25 d) :
    ∃ (P : Value) (A : Option Addr) (c : Nat) (bs : List Blk), v = .agg #[P, .slice A bs.length c] ∧ Fn W P A bs := by
  obtain ⟨v0, v1, y0, y1, n, rfl, rfl, rfl, t0, t1⟩ := open_agg2 Try.underlying25 (by kernel_rfl) (by kernel_rfl) hv h
  obtain ⟨z0, z1⟩ := reach_agg2 Try.underlying25 hz
  have hr := reachBytes_lt
  have hpar : ∃ (Ap : Option Addr) (np cp : Nat), v0 = .slice Ap np cp ∧ np ≤ 140737488355328 := by
    rcases open_slice Try.underlying22 t0 with ⟨e, _⟩ | ⟨a, len, cap, m, n', D, Pl, e, _, _, _, _, hx, _⟩
    · simp only [List.cons.injEq, and_true] at e
      exact ⟨none, 0, 0, e, by omega⟩
    · simp only [List.cons.injEq, and_true] at e
      refine ⟨_, _, _, e, ?_⟩
      rw [hx] at z0
      have := (reach_slice Try.underlying22 z0).1
      rw [bytesInt] at this
      simp at this
      omega
  rcases open_slice Try.underlying23 t1 with ⟨e, _⟩ | ⟨a, len, cap, m, n', D, Pl, e, _, hl, _, hm, hx, hi⟩
  · simp only [List.cons.injEq, and_true] at e
    subst e
    exact ⟨v0, none, 0, [], rfl, ⟨by simp, fun i hi => absurd hi (Nat.not_lt_zero _), fun i hi => absurd hi (Nat.not_lt_zero _), fun h => absurd h (by simp)⟩, fun i hi => absurd hi (Nat.not_lt_zero _), hpar⟩
  · simp only [List.cons.injEq, and_true] at e
    subst e
    rw [hx] at z1
    obtain ⟨hb, hall⟩ := reach_slice Try.underlying23 z1
    rw [show Try.prog.bytesOf 44 = 56 by kernel_rfl] at hb
    simp at hb
    have hlm : len ≤ m := by rw [hm]; split <;> omega
    rw [show Try.prog.cellsOf 44 = 5 by kernel_rfl] at hi
    obtain ⟨bs, hbl, hbs⟩ := pick_list (Q := fun i b => BlkAt W a i b) len fun i hil => by
      obtain ⟨cs', hc, ht⟩ := hi i (by omega)
      exact open_blk hc ht (hall _ (List.mem_map.2 ⟨i, List.mem_range.2 hil, rfl⟩))
    subst hbl
    refine ⟨v0, some a, cap, bs, rfl, ⟨by omega, fun i hi => (hbs i hi).1, fun i hi => (hbs i hi).2.1, fun hpos => ?_⟩, fun i hi => (hbs i hi).2.2.2, hpar⟩
    have hsp : a.spot = none := by
      obtain ⟨cs0, hc0, _⟩ := hi 0 (by omega)
      exact spot_row (by decide) hc0
    have hcell : ∀ k, k < 5 * bs.length → W.cell? ⟨a.block, a.off + k, none⟩ = some ((gB bs (k / 5)).cell (k % 5)) := fun k hk => by
      have := (hbs (k / 5) (by omega)).2.2.1 (k % 5) (by omega)
      rw [show 5 * (k / 5) + k % 5 = k by omega] at this
      exact this
    refine ⟨a.block, a.off, by cases a; simp_all, ?_, hcell⟩
    have := block_lt_of_cell (hcell 0 (by omega))
    exact this
end

end Go.Proofs.Ytjichaeegheacaa
