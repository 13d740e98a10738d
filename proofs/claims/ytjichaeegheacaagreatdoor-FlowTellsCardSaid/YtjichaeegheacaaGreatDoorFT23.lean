/-
  Open OpenF OpenV
-/
import Derived.Test.YtjichaeegheacaaGreatDoorFT1
import Derived.Test.YtjichaeegheacaaGreatDoorRows
import Derived.Test.YtjichaeegheacaaGreatDoorChecked
import Derived.ProofKit
import Derived.SizedLaws
import Derived.OpenShut
import Derived.Lay
import Derived.Lib.LaidU8
import Derived.Test.YtjichaeegheacaaGreatDoorFT8
import Derived.Lib.SmallJoins
import Derived.Deep.Slices
import Derived.Test.YtjichaeegheacaaGreatDoorFT9

/- Open -/
/-
  From the rows' readings to the walks' words: a slice of ints that came in; the table of package math/bits.
-/
namespace Go.Proofs.YtjichaeegheacaaGreatDoor
open Go Go.RowKit Go.ChangeShapes Go.WideShapes Go.ChangeAt

theorem own : ownKnob Tryz.prog.godebug = none := by kernel_rfl
theorem laidOut : laidOutB Tryz.prog = true := by kernel_rfl
theorem cellsInt : Tryz.prog.cellsOf 3 = 1 := by kernel_rfl
theorem bytesInt : Tryz.prog.bytesOf 3 = 8 := by kernel_rfl

theorem i64_of_wf {n : Int} (h : (Lit.int .i64 n).wf = true) : I64 n := bounds_i64 h

set_option maxRecDepth 100000 in
/-- An int that came in. -/
theorem open_I64 {H : Type} {enc : TypeId × Value → H} {W : World} {base : Nat} {v : Value} {d : DataW H} {p : List MemPlace} (hv : Value.okWide Tryz.prog W .any base 3 v)
    (h : DataW.Trod enc Tryz.prog W 0 (fun _ => true) true 3 v d p) : ∃ n, v = .int .i64 n ∧ I64 n := by
  obtain ⟨n, rfl, rfl, rfl, wa⟩ := open_int Tryz.underlying3 hv h
  exact ⟨n, rfl, i64_of_wf wa⟩

set_option maxRecDepth 100000 in
/-- A slice of ints that came in. -/
theorem open_SI {H : Type} {enc : TypeId × Value → H} {W : World} {base : Nat} {v : Value} {d : DataW H} {p : List MemPlace} (hv : Value.okWide Tryz.prog W .any base 22 v)
    (h : DataW.Trod enc Tryz.prog W 0 (fun _ => true) true 22 v d p) (hz : ∀ es sp : List (DataW H), d = .slice es sp → (es.length + sp.length) * 8 ≤ reachBytes) (hp : ∀ x ∈ p, x.block < W.heap.size) :
    ∃ A xs c, v = .slice A xs.length c ∧ SI W A c xs := by
  obtain ⟨a0, len, cap, rfl⟩ := okWide_slice Tryz.underlying22 hv
  have hok : Cell.ok Tryz.prog W .any base 22 (.slice a0 len cap) := by
    simpa [Value.okWide, Cell.okWide, Tryz.underlying22] using hv
  obtain ⟨fuel, hf⟩ := h
  rcases open_ints Tryz.underlying22 Tryz.underlying3 cellsInt hf with ⟨hcs, hx⟩ | ⟨a, len', cap', zs, hcs, _, hl, hm, hzl, hx, hcell, hwz⟩
  · simp [Value.cells] at hcs
    obtain ⟨rfl, rfl, rfl⟩ := hcs
    exact ⟨none, [], 0, rfl, RI.nil _ _, Nat.le_refl _, fun _ e => (by cases e), fun _ => rfl⟩
  · simp [Value.cells] at hcs
    obtain ⟨rfl, rfl, rfl⟩ := hcs
    have hzl' : zs.length = cap := by simpa using hzl
    simp only [Prod.mk.injEq] at hx
    obtain ⟨rfl, rfl⟩ := hx
    have hb := hz _ _ rfl
    have hbig : zs.length * 8 ≤ reachBytes := by
      simp [lits] at hb
      rw [hzl'] at hb ⊢
      rw [show min len cap + (cap - len) = cap by omega] at hb
      exact hb
    have hrl := reachBytes_lt
    have hlt : (zs.take len).length = len := by simp; omega
    have hsp : a.spot = none := by
      simp only [Cell.ok, Tryz.underlying22] at hok
      exact hok.2.2.2.1
    obtain ⟨b, off, spot⟩ := a
    simp only at hsp
    subst hsp
    refine ⟨some ⟨b, off, none⟩, zs.take len, cap, by rw [hlt], ⟨by rw [hlt]; omega, fun i hi => ?_, fun h0 => ⟨b, off, rfl, ?_, fun i hi => ?_⟩⟩, by rw [hlt]; exact hl, fun _ e => (by cases e; rfl), fun e => (by cases e)⟩
    · exact i64_of_wf (hwz _ (List.mem_of_mem_take (gI_mem hi)))
    · exact hp (.cell b off) (MemPlace.mem_row.2 ⟨0, by rw [hlt] at h0; omega, rfl⟩)
    · rw [hlt] at hi
      have := hcell i (by omega)
      rw [Go.WideShapes.add_plain] at this
      rw [this]
      simp [gI, hi, List.getD]

set_option maxRecDepth 100000 in
/-- The table of math/bits, as the rows lay it. -/
theorem tab_of_laid {W : World} (h : laidMet Tryz.prog [("math/bits.deBruijn64tab", Rows.laid_math_bits_deBruijn64tab)] W) : Tab W := by
  have e : (Rows.laid_math_bits_deBruijn64tab : DataW Unit) = Lib.tabData .u8 (Lib.deBruijn64tab.map Int.ofNat) := by kernel_rfl
  rw [e] at h
  have ht := Lib.tabIs_of_head (P := Tryz.prog) (g := 0) (t := 186) (e := 5) (n := 64) (by kernel_rfl) (by kernel_rfl) (by kernel_rfl) (by kernel_rfl) (by kernel_rfl) (by kernel_rfl) h
  have hall : TabAt 0 Lib.deBruijn64tab W := fun j hj => by
    have h2 := World.var?_cell (g := 0) (by kernel_rfl) ht j
    rw [h2]
    simp [List.getD, List.getElem?_eq_getElem hj]
  exact ⟨hall, block_lt_of_cell (hall 0 (by decide))⟩

end Go.Proofs.YtjichaeegheacaaGreatDoor

/- OpenF -/
/-
  From the rows' readings to the walks' words: a function that came in.
-/
namespace Go.Proofs.YtjichaeegheacaaGreatDoor
open Go Go.RowKit Go.ChangeShapes Go.WideShapes Go.ChangeAt Go.Joins Go.Deep

theorem pick_list {α : Type} [Inhabited α] {Q : Nat → α → Prop} : ∀ n : Nat, (∀ i, i < n → ∃ x, Q i x) → ∃ l : List α, l.length = n ∧ ∀ i, i < n → Q i (l[i]?.getD default)
  | 0, _ => ⟨[], rfl, fun i hi => absurd hi (Nat.not_lt_zero _)⟩
  | n + 1, h => by
    obtain ⟨l, hl, hq⟩ := pick_list n fun i hi => h i (by omega)
    obtain ⟨x, hx⟩ := h n (by omega)
    refine ⟨l ++ [x], by simp [hl], fun i hi => ?_⟩
    by_cases e : i = n
    · subst e
      rw [List.getElem?_append_right (by omega), hl]
      simpa using hx
    · rw [List.getElem?_append_left (by omega)]
      exact hq i (by omega)

section
variable {H : Type} {enc : TypeId × Value → H} {W : World} {base : Nat} {sp : Nat → Bool} {held : Bool}

/-- The weights of a datum are within reach. -/
def InReach (P : Program) (t : TypeId) (d : DataW H) : Prop := (d.weights P t).all (· ≤ reachBytes) = true
theorem weights_all {P : Program} {e : TypeId} : ∀ {ds : List (DataW H)}, (DataW.weightsAll P e ds).all (· ≤ reachBytes) = true → ∀ d ∈ ds, InReach P e d
  | [], _, d, hd => by cases hd
  | x :: ds, h, d, hd => by
    simp only [DataW.weightsAll, List.all_append, Bool.and_eq_true] at h
    rcases List.mem_cons.1 hd with rfl | hd
    · exact h.1
    · exact weights_all h.2 d hd
theorem reach_slice {P : Program} {t e : TypeId} {es ss : List (DataW H)} (hu : P.underlying t = some (.slice e)) (h : InReach P t (.slice es ss)) : (es.length + ss.length) * P.bytesOf e ≤ reachBytes ∧ ∀ d ∈ es, InReach P e d := by
  unfold InReach at h
  simp only [DataW.weights, hu, List.all_cons, List.all_append, Bool.and_eq_true, decide_eq_true_eq] at h
  exact ⟨h.1, weights_all h.2.1⟩
theorem reach_agg2 {P : Program} {t : TypeId} {f0 f1 : Field} {a b : DataW H} (hu : P.underlying t = some (.struct #[f0, f1])) (h : InReach P t (.agg [a, b])) : InReach P f0.type a ∧ InReach P f1.type b := by
  unfold InReach at h
  simp only [DataW.weights, hu, DataW.weightsEach, List.map_cons, List.map_nil, List.all_append, Bool.and_eq_true] at h
  exact ⟨h.1, h.2.1⟩
theorem reach_agg {P : Program} {t : TypeId} {fs : Array Field} {ds : List (DataW H)} (hu : P.underlying t = some (.struct fs)) (h : InReach P t (.agg ds)) {j : Nat} {f : Field} {d : DataW H} (hf : fs[j]? = some f) (hd : ds[j]? = some d) : InReach P f.type d := by
  unfold InReach at h
  simp only [DataW.weights, hu] at h
  refine List.all_eq_true.2 fun n hn => ?_
  refine List.all_eq_true.1 h n (DataW.weights_mem_each (j := j) (t := f.type) (d := d) ?_ hd n hn)
  simp [hf]

theorem add_cell {a : Addr} {i : Nat} {v : Value} (h : W.cell? (a.add i) = some v) : a.add i = ⟨a.block, a.off + i, none⟩ := by
  have hs := World.cell?_spot h
  obtain ⟨b, o, s⟩ := a
  unfold Addr.add at hs ⊢
  split <;> simp_all

/-- Where a row of n cells an element begins. -/
theorem spot_row {a : Addr} {n : Nat} {cs : List Value} (hn : 0 < n) (h : W.cells? base (a.add (0 * n)) n = some cs) : a.spot = none := by
  obtain ⟨_, hl, hc⟩ := World.cells?_some h
  have h0 := (hc 0 hn).trans (List.getElem?_eq_getElem (by omega : 0 < cs.length))
  have := World.cell?_spot h0
  simpa [Addr.add] using this

set_option maxRecDepth 100000 in
/-- One instruction: where its arguments lie. -/
theorem open_ins {n : Nat} {t : TypeId} {cs : List Value} {x : DataW H × List MemPlace} (ht : t = 43) (h : DataW.trod enc Tryz.prog W base sp held n t cs = some x) (hz : InReach Tryz.prog 43 x.1) :
    ∃ v, cs = [v] ∧ v.oneCell' = true ∧ InsOk W v := by
  subst ht
  rcases open_slice Tryz.underlying43 h with ⟨rfl, _⟩ | ⟨a, len, cap, m, n', D, Pl, rfl, _, hl, _, hm, hx, hi⟩
  · exact ⟨_, rfl, rfl, none, 0, 0, rfl, by omega, fun k hk => absurd hk (Nat.not_lt_zero _)⟩
  · refine ⟨_, rfl, rfl, some a, len, cap, rfl, ?_, fun k hk => ?_⟩
    · rw [hx] at hz
      have := (reach_slice Tryz.underlying43 hz).1
      rw [show Tryz.prog.bytesOf 110 = 80 by kernel_rfl] at this
      have hr := reachBytes_lt
      simp at this
      omega
    · have hkm : k < m := by rw [hm]; split <;> omega
      obtain ⟨cs', hc, ht⟩ := hi k hkm
      rw [show Tryz.prog.cellsOf 110 = 8 by kernel_rfl] at hc
      obtain ⟨_, hcl, hcell⟩ := World.cells?_some hc
      obtain ⟨xs, n2, _, hx2, _, hxl, hf⟩ := DataW.trod_struct Tryz.underlying110 ht
      have h6 : DataW.trod enc Tryz.prog W base sp held n2 22 ((cs'.drop 6).take (Tryz.prog.cellsOf 22)) = xs[6]? := hf 6 _ rfl
      have hx6 : xs[6]? = some (xs[6]'(by rw [hxl]; decide)) := List.getElem?_eq_getElem _
      rw [hx6] at h6
      have hcs6 : (cs'.drop 6).take 1 = [cs'[6]'(by omega)] := by
        rw [List.drop_eq_getElem_cons (by omega)]; rfl
      rw [show Tryz.prog.cellsOf 22 = 1 by kernel_rfl] at h6
      rw [hcs6] at h6
      have hc6 := hcell 6 (by decide)
      rw [add_add, List.getElem?_eq_getElem (by omega)] at hc6
      have hda := add_cell hc6
      rw [hda] at hc6
      have hIn : InReach Tryz.prog 110 (D k) := by
        rw [hx] at hz
        exact (reach_slice Tryz.underlying43 hz).2 _ (List.mem_map.2 ⟨k, List.mem_range.2 hk, rfl⟩)
      have hD : D k = .agg (xs.map (·.1)) := (Prod.mk.inj hx2).1
      rw [hD] at hIn
      have hI6 : InReach Tryz.prog 22 (xs[6]'(by rw [hxl]; decide)).1 := reach_agg Tryz.underlying110 hIn (j := 6) rfl (by rw [List.getElem?_map, hx6]; rfl)
      have hsp : a.spot = none := by
        obtain ⟨cs0, hc0, _⟩ := hi 0 (by omega)
        rw [show Tryz.prog.cellsOf 110 = 8 by kernel_rfl] at hc0
        exact spot_row (by decide) hc0
      refine ⟨a.block, a.off, by cases a; simp_all, ?_, ?_⟩
      · have hlt := block_lt_of_cell hc6
        exact hlt
      · rcases open_slice Tryz.underlying22 h6 with ⟨e, _⟩ | ⟨a6, len6, cap6, m6, n6, D6, P6, e, _, _, _, _, hx6', _⟩
        · simp only [List.cons.injEq, and_true] at e
          rw [e] at hc6
          exact ⟨none, 0, 0, by rw [← Nat.add_assoc] at hc6; exact hc6, by omega⟩
        · simp only [List.cons.injEq, and_true] at e
          rw [e] at hc6
          refine ⟨some a6, len6, cap6, by rw [← Nat.add_assoc] at hc6; exact hc6, ?_⟩
          rw [hx6'] at hI6
          have := (reach_slice Tryz.underlying22 hI6).1
          rw [bytesInt] at this
          have hr := reachBytes_lt
          simp at this
          omega

/-- What is asked of one block, at its address. -/
def BlkAt (W : World) (a : Addr) (i : Nat) (b : Blk) : Prop :=
  b.t.ok ∧ b.ins.oneCell' = true ∧ (∀ j, j < 5 → W.cell? ⟨a.block, a.off + (5 * i + j), none⟩ = some (b.cell j)) ∧ InsOk W b.ins
set_option maxRecDepth 100000 in
theorem open_blk {n : Nat} {cs : List Value} {a : Addr} {i : Nat} {x : DataW H × List MemPlace} (hc : W.cells? base (a.add (i * 5)) 5 = some cs) (h : DataW.trod enc Tryz.prog W base sp held n 49 cs = some x) (hz : InReach Tryz.prog 49 x.1) :
    ∃ b, BlkAt W a i b := by
  obtain ⟨_, hcl, hcell⟩ := World.cells?_some hc
  obtain ⟨y0, y1, n2, hx, _, h0, h1⟩ := trod_struct2 Tryz.underlying49 h
  match cs, hcl with
  | [c0, c1, c2, c3, c4], _ =>
    have hI := reach_agg2 Tryz.underlying49 (by rw [hx] at hz; exact hz)
    have e0 : DataW.trod enc Tryz.prog W base sp held n2 43 [c0] = some y0 := by
      rw [← h0]
      show _ = DataW.trod enc Tryz.prog W base sp held n2 43 (([c0, c1, c2, c3, c4].drop 0).take (Tryz.prog.cellsOf 43))
      rw [show Tryz.prog.cellsOf 43 = 1 by kernel_rfl]
      rfl
    have e1 : DataW.trod enc Tryz.prog W base sp held n2 47 [c1, c2, c3, c4] = some y1 := by
      rw [← h1]
      show _ = DataW.trod enc Tryz.prog W base sp held n2 47 (([c0, c1, c2, c3, c4].drop 1).take (Tryz.prog.cellsOf 47))
      rw [show Tryz.prog.cellsOf 47 = 4 by kernel_rfl]
      rfl
    obtain ⟨v, hv, hone, hins⟩ := open_ins rfl e0 hI.1
    obtain rfl : c0 = v := by simpa using hv
    obtain ⟨xs, n3, _, hx3, _, hxl, hf⟩ := DataW.trod_struct Tryz.underlying47 e1
    have g : ∀ (j : Nat) (t : TypeId) (c : List Value) (hj : j < xs.length), DataW.trod enc Tryz.prog W base sp held n3 t c = xs[j]? → DataW.trod enc Tryz.prog W base sp held n3 t c = some (xs[j]'hj) := fun j t c hj h => h.trans (List.getElem?_eq_getElem hj)
    have f0 : DataW.trod enc Tryz.prog W base sp held n3 44 [c1] = xs[0]? := by
      have : DataW.trod enc Tryz.prog W base sp held n3 44 (([c1, c2, c3, c4].drop 0).take (Tryz.prog.cellsOf 44)) = xs[0]? := hf 0 _ rfl
      rw [show Tryz.prog.cellsOf 44 = 1 by kernel_rfl] at this
      exact this
    have f1 : DataW.trod enc Tryz.prog W base sp held n3 3 [c2] = xs[1]? := by
      have : DataW.trod enc Tryz.prog W base sp held n3 3 (([c1, c2, c3, c4].drop 1).take (Tryz.prog.cellsOf 3)) = xs[1]? := hf 1 _ rfl
      rw [cellsInt] at this
      exact this
    have f2 : DataW.trod enc Tryz.prog W base sp held n3 45 [c3, c4] = xs[2]? := by
      have : DataW.trod enc Tryz.prog W base sp held n3 45 (([c1, c2, c3, c4].drop 2).take (Tryz.prog.cellsOf 45)) = xs[2]? := hf 2 _ rfl
      rw [show Tryz.prog.cellsOf 45 = 2 by kernel_rfl] at this
      exact this
    have hx3l : xs.length = 3 := hxl
    obtain ⟨k, hk, _, wk⟩ := DataW.trod_int Tryz.underlying44 (g 0 _ _ (by omega) f0)
    obtain ⟨ta, hta, _, wa⟩ := DataW.trod_int Tryz.underlying3 (g 1 _ _ (by omega) f1)
    obtain ⟨ys, n4, _, _, _, hyl, hg⟩ := DataW.trod_array Tryz.underlying45 (g 2 _ _ (by omega) f2)
    have g0 : DataW.trod enc Tryz.prog W base sp held n4 3 [c3] = some (ys[0]'(by omega)) := by
      have := hg 0 (by decide)
      rw [cellsInt] at this
      exact this.trans (List.getElem?_eq_getElem _)
    have g1 : DataW.trod enc Tryz.prog W base sp held n4 3 [c4] = some (ys[1]'(by omega)) := by
      have := hg 1 (by decide)
      rw [cellsInt] at this
      exact this.trans (List.getElem?_eq_getElem _)
    obtain ⟨t0, ht0, _, w0⟩ := DataW.trod_int Tryz.underlying3 g0
    obtain ⟨t1, ht1, _, w1⟩ := DataW.trod_int Tryz.underlying3 g1
    simp only [List.cons.injEq, and_true] at hk hta ht0 ht1
    subst hk hta ht0 ht1
    refine ⟨⟨c0, ⟨k, ta, t0, t1⟩⟩, ⟨i64_of_wf wk, i64_of_wf wa, i64_of_wf w0, i64_of_wf w1⟩, hone, fun j hj => ?_, hins⟩
    have hcj := hcell j hj
    rw [add_add] at hcj
    have hv : [c0, .int .i64 k, .int .i64 ta, .int .i64 t0, .int .i64 t1][j]? = some ((Blk.mk c0 ⟨k, ta, t0, t1⟩).cell j) := by
      match j, hj with
      | 0, _ => rfl
      | 1, _ => rfl
      | 2, _ => rfl
      | 3, _ => rfl
      | 4, _ => rfl
    rw [hv] at hcj
    have hda := add_cell hcj
    rw [hda, Nat.mul_comm i 5] at hcj
    exact hcj

set_option maxRecDepth 100000 in
theorem open_fn {b0 : Nat} {v : Value} {d : DataW H} {p : List MemPlace} (hv : Value.okWide Tryz.prog W .any b0 25 v) (h : DataW.Trod enc Tryz.prog W base sp held 25 v d p) (hz : InReach Tryz.prog 25 d) :
    ∃ (P : Value) (A : Option Addr) (c : Nat) (bs : List Blk), v = .agg #[P, .slice A bs.length c] ∧ Fn W P A bs := by
  obtain ⟨v0, v1, y0, y1, n, rfl, rfl, rfl, t0, t1⟩ := open_agg2 Tryz.underlying25 (by kernel_rfl) (by kernel_rfl) hv h
  obtain ⟨z0, z1⟩ := reach_agg2 Tryz.underlying25 hz
  have hr := reachBytes_lt
  have hpar : ∃ (Ap : Option Addr) (np cp : Nat), v0 = .slice Ap np cp ∧ np ≤ 140737488355328 := by
    rcases open_slice Tryz.underlying22 t0 with ⟨e, _⟩ | ⟨a, len, cap, m, n', D, Pl, e, _, _, _, _, hx, _⟩
    · simp only [List.cons.injEq, and_true] at e
      exact ⟨none, 0, 0, e, by omega⟩
    · simp only [List.cons.injEq, and_true] at e
      refine ⟨_, _, _, e, ?_⟩
      rw [hx] at z0
      have := (reach_slice Tryz.underlying22 z0).1
      rw [bytesInt] at this
      simp at this
      omega
  rcases open_slice Tryz.underlying23 t1 with ⟨e, _⟩ | ⟨a, len, cap, m, n', D, Pl, e, _, hl, _, hm, hx, hi⟩
  · simp only [List.cons.injEq, and_true] at e
    subst e
    exact ⟨v0, none, 0, [], rfl, ⟨by simp, fun i hi => absurd hi (Nat.not_lt_zero _), fun i hi => absurd hi (Nat.not_lt_zero _), fun h => absurd h (by simp)⟩, fun i hi => absurd hi (Nat.not_lt_zero _), hpar⟩
  · simp only [List.cons.injEq, and_true] at e
    subst e
    rw [hx] at z1
    obtain ⟨hb, hall⟩ := reach_slice Tryz.underlying23 z1
    rw [show Tryz.prog.bytesOf 49 = 56 by kernel_rfl] at hb
    simp at hb
    have hlm : len ≤ m := by rw [hm]; split <;> omega
    rw [show Tryz.prog.cellsOf 49 = 5 by kernel_rfl] at hi
    obtain ⟨bs, hbl, hbs⟩ := pick_list (Q := fun i b => BlkAt W a i b) len fun i hil => by
      obtain ⟨cs', hc, ht⟩ := hi i (by omega)
      exact open_blk hc ht (hall _ (List.mem_map.2 ⟨i, List.mem_range.2 hil, rfl⟩))
    subst hbl
    refine ⟨v0, some a, cap, bs, rfl, ⟨by omega, fun i hi => (hbs i hi).1, fun i hi => (hbs i hi).2.1, fun hpos => ?_⟩, fun i hi => (hbs i hi).2.2.2, hpar⟩
    have hsp : a.spot = none := by
      obtain ⟨cs0, hc0, _⟩ := hi 0 (by omega)
      exact spot_row (by decide) hc0
    have hcell : ∀ k, k < 5 * bs.length → W.cell? ⟨a.block, a.off + k, none⟩ = some ((gB bs (k / 5)).cell (k % 5)) := fun k hk => by
      have := (hbs (k / 5) (by omega)).2.2.1 (k % 5) (by omega)
      rw [show 5 * (k / 5) + k % 5 = k by omega] at this
      exact this
    refine ⟨a.block, a.off, by cases a; simp_all, ?_, hcell⟩
    have := block_lt_of_cell (hcell 0 (by omega))
    exact this
end

end Go.Proofs.YtjichaeegheacaaGreatDoor

/- OpenV -/
/-
  From the rows' readings to the walks' words: a function that came in, with all its data.
-/
namespace Go.Proofs.YtjichaeegheacaaGreatDoor
open Go Go.RowKit Go.ChangeShapes Go.WideShapes Go.ChangeAt Go.Joins Go.Deep

section
variable {H : Type} {enc : TypeId × Value → H} {W : World} {base : Nat} {sp : Nat → Bool} {held : Bool}

set_option maxRecDepth 100000 in
/-- A slice of ints, as it lies. -/
theorem open_ri {n : Nat} {cs : List Value} {x : DataW H × List MemPlace} (h : DataW.trod enc Tryz.prog W base sp held n 22 cs = some x) (hz : InReach Tryz.prog 22 x.1) :
    ∃ A xs c, cs = [.slice A (List.length xs) c] ∧ RI W A xs := by
  rcases open_ints Tryz.underlying22 Tryz.underlying3 cellsInt h with ⟨hcs, hx⟩ | ⟨a, len, cap, zs, hcs, _, hl, hm, hzl, hx, hcell, hwz⟩
  · exact ⟨none, [], 0, hcs, RI.nil _ _⟩
  · have hlen : len ≤ zs.length := by rw [hzl]; split <;> omega
    have hlt : (zs.take len).length = len := by simp; omega
    have hbig : len ≤ 140737488355328 := by
      rw [hx] at hz
      have := (reach_slice Tryz.underlying22 hz).1
      rw [bytesInt] at this
      have hr := reachBytes_lt
      simp [lits] at this
      omega
    have hrd : ∀ i, i < len → W.cell? ⟨a.block, a.off + i, none⟩ = some (.int .i64 (gI (zs.take len) i)) := fun i hi => by
      have := hcell i (by omega)
      have hda := add_cell this
      rw [hda] at this
      rw [this]
      simp [gI, hi, List.getD]
    refine ⟨some a, zs.take len, cap, by rw [hlt]; exact hcs, ⟨by rw [hlt]; exact hbig, fun i hi => i64_of_wf (hwz _ (List.mem_of_mem_take (gI_mem hi))), fun h0 => ?_⟩⟩
    rw [hlt] at h0
    have h00 := hcell 0 (by omega)
    have hs := World.cell?_spot h00
    have hsp : a.spot = none := by simpa [Addr.add] using hs
    have hlb : a.block < W.heap.size := by have := block_lt_of_cell (hrd 0 h0); exact this
    refine ⟨a.block, a.off, by cases a; simp_all, hlb, fun i hi => hrd i (by rw [hlt] at hi; exact hi)⟩

/-- One instruction, at its address. -/
def InsAt (W : World) (a : Addr) (i : Nat) (x : InsV) : Prop :=
  (∀ j, j < 8 → W.cell? ⟨a.block, a.off + (i * 8 + j), none⟩ = some (x.cell j)) ∧ RI W x.A x.d.args
set_option maxRecDepth 100000 in
theorem open_insV {n : Nat} {cs : List Value} {a : Addr} {i : Nat} {x : DataW H × List MemPlace} (hc : W.cells? base (a.add (i * 8)) 8 = some cs) (h : DataW.trod enc Tryz.prog W base sp held n 110 cs = some x) (hz : InReach Tryz.prog 110 x.1) :
    ∃ v, InsAt W a i v := by
  obtain ⟨_, hcl, hcell⟩ := World.cells?_some hc
  obtain ⟨xs, n2, _, hx2, _, hxl, hf⟩ := DataW.trod_struct Tryz.underlying110 h
  have hx8 : xs.length = 8 := hxl
  rw [hx2] at hz
  match cs, hcl with
  | [c0, c1, c2, c3, c4, c5, c6, c7], _ =>
    have g : ∀ (j : Nat) (t : TypeId) (c : List Value) (hj : j < xs.length), DataW.trod enc Tryz.prog W base sp held n2 t c = xs[j]? → DataW.trod enc Tryz.prog W base sp held n2 t c = some (xs[j]'hj) := fun j t c hj h => h.trans (List.getElem?_eq_getElem hj)
    have f0 : DataW.trod enc Tryz.prog W base sp held n2 108 [c0] = xs[0]? := by
      have : DataW.trod enc Tryz.prog W base sp held n2 108 (([c0, c1, c2, c3, c4, c5, c6, c7].drop 0).take (Tryz.prog.cellsOf 108)) = xs[0]? := hf 0 _ rfl
      rw [show Tryz.prog.cellsOf 108 = 1 by kernel_rfl] at this
      exact this
    have fi : ∀ j c, ([c0, c1, c2, c3, c4, c5, c6, c7].drop j).take 1 = [c] → DataW.trod enc Tryz.prog W base sp held n2 3 (([c0, c1, c2, c3, c4, c5, c6, c7].drop j).take (Tryz.prog.cellsOf 3)) = xs[j]? → DataW.trod enc Tryz.prog W base sp held n2 3 [c] = xs[j]? := fun j c e h => by
      rw [cellsInt, e] at h
      exact h
    have f1 := fi 1 c1 rfl (hf 1 _ rfl)
    have f2 := fi 2 c2 rfl (hf 2 _ rfl)
    have f3 := fi 3 c3 rfl (hf 3 _ rfl)
    have f4 := fi 4 c4 rfl (hf 4 _ rfl)
    have f5 := fi 5 c5 rfl (hf 5 _ rfl)
    have f7 := fi 7 c7 rfl (hf 7 _ rfl)
    have f6 : DataW.trod enc Tryz.prog W base sp held n2 22 [c6] = xs[6]? := by
      have : DataW.trod enc Tryz.prog W base sp held n2 22 (([c0, c1, c2, c3, c4, c5, c6, c7].drop 6).take (Tryz.prog.cellsOf 22)) = xs[6]? := hf 6 _ rfl
      rw [show Tryz.prog.cellsOf 22 = 1 by kernel_rfl] at this
      exact this
    obtain ⟨k0, h0, _, _⟩ := DataW.trod_int Tryz.underlying108 (g 0 _ _ (by omega) f0)
    obtain ⟨k1, h1, _, _⟩ := DataW.trod_int Tryz.underlying3 (g 1 _ _ (by omega) f1)
    obtain ⟨k2, h2, _, _⟩ := DataW.trod_int Tryz.underlying3 (g 2 _ _ (by omega) f2)
    obtain ⟨k3, h3, _, _⟩ := DataW.trod_int Tryz.underlying3 (g 3 _ _ (by omega) f3)
    obtain ⟨k4, h4, _, _⟩ := DataW.trod_int Tryz.underlying3 (g 4 _ _ (by omega) f4)
    obtain ⟨k5, h5, _, _⟩ := DataW.trod_int Tryz.underlying3 (g 5 _ _ (by omega) f5)
    obtain ⟨k7, h7, _, _⟩ := DataW.trod_int Tryz.underlying3 (g 7 _ _ (by omega) f7)
    obtain ⟨A6, l6, c6', h6, hr6⟩ := open_ri (g 6 _ _ (by omega) f6) (reach_agg Tryz.underlying110 hz (j := 6) rfl (by rw [List.getElem?_map, List.getElem?_eq_getElem (by omega)]; rfl))
    simp only [List.cons.injEq, and_true] at h0 h1 h2 h3 h4 h5 h6 h7
    subst h0 h1 h2 h3 h4 h5 h6 h7
    refine ⟨⟨⟨k0, k1, k2, k3, k4, k5, l6, k7⟩, A6, c6'⟩, fun j hj => ?_, hr6⟩
    have hcj := hcell j hj
    rw [add_add] at hcj
    have hv : [Value.int .i64 k0, .int .i64 k1, .int .i64 k2, .int .i64 k3, .int .i64 k4, .int .i64 k5, .slice A6 l6.length c6', .int .i64 k7][j]? = some ((InsV.mk ⟨k0, k1, k2, k3, k4, k5, l6, k7⟩ A6 c6').cell j) := by
      match j, hj with
      | 0, _ => rfl
      | 1, _ => rfl
      | 2, _ => rfl
      | 3, _ => rfl
      | 4, _ => rfl
      | 5, _ => rfl
      | 6, _ => rfl
      | 7, _ => rfl
    rw [hv] at hcj
    have hda := add_cell hcj
    rw [hda] at hcj
    exact hcj

set_option maxRecDepth 100000 in
/-- A slice of instructions. -/
theorem open_row {n : Nat} {cs : List Value} {x : DataW H × List MemPlace} (h : DataW.trod enc Tryz.prog W base sp held n 43 cs = some x) (hz : InReach Tryz.prog 43 x.1) :
    ∃ A xs c, cs = [.slice A (List.length xs) c] ∧ RRow W A xs := by
  rcases open_slice Tryz.underlying43 h with ⟨e, _⟩ | ⟨a, len, cap, m, n', D, Pl, e, _, hl, _, hm, hx, hi⟩
  · exact ⟨none, [], 0, e, RRow.nil _ _⟩
  · rw [hx] at hz
    obtain ⟨hb, hall⟩ := reach_slice Tryz.underlying43 hz
    rw [show Tryz.prog.bytesOf 110 = 80 by kernel_rfl] at hb
    have hr := reachBytes_lt
    simp at hb
    have hlm : len ≤ m := by rw [hm]; split <;> omega
    rw [show Tryz.prog.cellsOf 110 = 8 by kernel_rfl] at hi
    obtain ⟨xs, hxl, hxs⟩ := pick_list (Q := fun i v => InsAt W a i v) len fun i hil => by
      obtain ⟨cs', hc, ht⟩ := hi i (by omega)
      exact open_insV hc ht (hall _ (List.mem_map.2 ⟨i, List.mem_range.2 hil, rfl⟩))
    subst hxl
    refine ⟨some a, xs, cap, e, ⟨by omega, fun i hil => ?_, fun i hil => (hxs i hil).2⟩⟩
    have hsp : a.spot = none := by
      obtain ⟨cs0, hc0, _⟩ := hi 0 (by omega)
      exact spot_row (by decide) hc0
    have hlt := block_lt_of_cell ((hxs i hil).1 0 (by omega))
    refine ⟨a.block, a.off, by cases a; simp_all, hlt, fun W' hW j hj => ?_⟩
    have := (hxs i hil).1 j hj
    rw [Nat.add_assoc]
    exact (hW.cell (p := ⟨a.block, a.off + (i * 8 + j), none⟩) hlt).trans this

/-- One block, at its address. -/
def BlkVAt (W : World) (a : Addr) (i : Nat) (b : BlkV) : Prop :=
  b.t.ok ∧ (∀ j, j < 5 → W.cell? ⟨a.block, a.off + (5 * i + j), none⟩ = some (b.blk.cell j)) ∧ RRow W b.A b.ins
set_option maxRecDepth 100000 in
theorem open_blkV {n : Nat} {cs : List Value} {a : Addr} {i : Nat} {x : DataW H × List MemPlace} (hc : W.cells? base (a.add (i * 5)) 5 = some cs) (h : DataW.trod enc Tryz.prog W base sp held n 49 cs = some x) (hz : InReach Tryz.prog 49 x.1) :
    ∃ b, BlkVAt W a i b := by
  obtain ⟨b, hok, _, hcells, _⟩ := open_blk hc h hz
  obtain ⟨_, hcl, hcell⟩ := World.cells?_some hc
  obtain ⟨y0, y1, n2, hx, _, h0, h1⟩ := trod_struct2 Tryz.underlying49 h
  have hI := reach_agg2 Tryz.underlying49 (by rw [hx] at hz; exact hz)
  match cs, hcl with
  | [c0, c1, c2, c3, c4], _ =>
    have e0 : DataW.trod enc Tryz.prog W base sp held n2 43 [c0] = some y0 := by
      rw [← h0]
      show _ = DataW.trod enc Tryz.prog W base sp held n2 43 (([c0, c1, c2, c3, c4].drop 0).take (Tryz.prog.cellsOf 43))
      rw [show Tryz.prog.cellsOf 43 = 1 by kernel_rfl]
      rfl
    obtain ⟨A, xs, c, hv, hrow⟩ := open_row e0 hI.1
    simp only [List.cons.injEq, and_true] at hv
    have hc0 := hcell 0 (by decide)
    rw [add_add] at hc0
    have hda := add_cell (hc0.trans (show [c0, c1, c2, c3, c4][0]? = some c0 from rfl))
    rw [hda, Nat.mul_comm i 5] at hc0
    have hb0 : some (b.cell 0) = some c0 := (hcells 0 (by decide)).symm.trans hc0
    have hbi : b.ins = .slice A xs.length c := (Option.some.inj hb0).trans hv
    refine ⟨⟨xs, A, c, b.t⟩, hok, fun j hj => (hcells j hj).trans ?_, hrow⟩
    obtain ⟨bi, bt⟩ := b
    simp only at hbi
    subst hbi
    rfl

set_option maxRecDepth 100000 in
theorem open_fnV {b0 : Nat} {v : Value} {d : DataW H} {p : List MemPlace} (hv : Value.okWide Tryz.prog W .any b0 25 v) (h : DataW.Trod enc Tryz.prog W base sp held 25 v d p) (hz : InReach Tryz.prog 25 d) :
    ∃ F : FnV, v = F.val ∧ RFn W F := by
  obtain ⟨v0, v1, y0, y1, n, rfl, rfl, rfl, t0, t1⟩ := open_agg2 Tryz.underlying25 (by kernel_rfl) (by kernel_rfl) hv h
  obtain ⟨z0, z1⟩ := reach_agg2 Tryz.underlying25 hz
  have hr := reachBytes_lt
  obtain ⟨Ap, par, cp, hpv, hpar⟩ := open_ri t0 z0
  simp only [List.cons.injEq, and_true] at hpv
  subst hpv
  rcases open_slice Tryz.underlying23 t1 with ⟨e, _⟩ | ⟨a, len, cap, m, n', D, Pl, e, _, hl, _, hm, hx, hi⟩
  · simp only [List.cons.injEq, and_true] at e
    subst e
    exact ⟨⟨par, Ap, cp, [], none, 0⟩, rfl, hpar, ⟨⟨by simp [blks], fun i hi => absurd hi (Nat.not_lt_zero _), fun i hi => absurd hi (Nat.not_lt_zero _), fun h => absurd h (by simp [blks])⟩, fun i hi => absurd hi (Nat.not_lt_zero _)⟩⟩
  · simp only [List.cons.injEq, and_true] at e
    subst e
    rw [hx] at z1
    obtain ⟨hb, hall⟩ := reach_slice Tryz.underlying23 z1
    rw [show Tryz.prog.bytesOf 49 = 56 by kernel_rfl] at hb
    simp at hb
    have hlm : len ≤ m := by rw [hm]; split <;> omega
    rw [show Tryz.prog.cellsOf 49 = 5 by kernel_rfl] at hi
    obtain ⟨bs, hbl, hbs⟩ := pick_list (Q := fun i b => BlkVAt W a i b) len fun i hil => by
      obtain ⟨cs', hc, ht⟩ := hi i (by omega)
      exact open_blkV hc ht (hall _ (List.mem_map.2 ⟨i, List.mem_range.2 hil, rfl⟩))
    subst hbl
    have hgb : ∀ i, i < (blks bs).length → i < bs.length := fun i hi => by rwa [blks_len] at hi
    refine ⟨⟨par, Ap, cp, bs, some a, cap⟩, rfl, hpar, ⟨⟨by rw [blks_len]; show bs.length ≤ _; omega, fun i hi => by rw [gB_blks (hgb i hi)]; exact (hbs i (hgb i hi)).1, fun i hi => by rw [gB_blks (hgb i hi)]; rfl, fun hpos => ?_⟩, fun i hi => (hbs i hi).2.2⟩⟩
    rw [blks_len] at hpos
    have hpos : 0 < bs.length := by
      have h5 : 0 < 5 * bs.length := hpos
      omega
    have hsp : a.spot = none := by
      obtain ⟨cs0, hc0, _⟩ := hi 0 (by omega)
      exact spot_row (by decide) hc0
    have hcell : ∀ k, k < 5 * (blks bs).length → W.cell? ⟨a.block, a.off + k, none⟩ = some ((gB (blks bs) (k / 5)).cell (k % 5)) := fun k hk => by
      rw [blks_len] at hk
      have := (hbs (k / 5) (by omega)).2.1 (k % 5) (by omega)
      rw [show 5 * (k / 5) + k % 5 = k by omega] at this
      rw [gB_blks (by omega)]
      exact this
    have hlb : a.block < W.heap.size := by have := block_lt_of_cell (hcell 0 (by rw [blks_len]; omega)); exact this
    exact ⟨a.block, a.off, by cases a; simp_all, hlb, hcell⟩
end

end Go.Proofs.YtjichaeegheacaaGreatDoor
