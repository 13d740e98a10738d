
/-
  Package ir: To: where an end goes.
-/
import Derived.Test.YtjichaeegheacaaIsTerm
namespace Go.Proofs.Ytjichaeegheacaa
open Go Go.RowKit

/-- append of ints onto a row of one's own, in a plain region. -/
theorem wpList_app {ops : Array Oper} {rest : List Oper} {o : Oper} {a : Act} {w : World} {Q : Exit → Act → World → Prop} (hgd : o.guard = none) (s x : Operand)
    (ho : o.op = .call { callee := .builtin .append, args := #[s, x], argTypes := #[22, 22] }) (B : Nat) (v : Value) (hs : a.eval s = v) (xs : List Int) (hown : w.ownsRow B 3 1 v xs.length (xs.map (Value.int .i64)))
    (A : Option Addr) (c m : Nat) (hx : a.eval x = .slice A m c) (ys : List Int) (hm : m = ys.length) (hr : RI w A ys) (hA : A = none → ys = []) (hB : B ≤ w.heap.size) (hl : xs.length + ys.length ≤ 17592186044416)
    (h : ∀ v' w', w'.ownsRow B 3 1 v' (xs ++ ys).length ((xs ++ ys).map (Value.int .i64)) → Below B w w' → wpList Try.prog ops Q rest (a.put o.dst v') w') : wpList Try.prog ops Q (o :: rest) a w :=
  wpList_plain hgd fun K hK => by
    subst hm
    obtain ⟨v', w', hrun, h2, h3⟩ := app_ints (ty := o.type) hown hr (c := c) hA hB hl
    unfold Oper.wp execOp
    simp only [ho, resolve, invoke, builtin, Sem.run_bind, Sem.run_pure, Result.andThen_ok, List.map_toArray, List.map_cons, List.map_nil, hs, hx, hrun]
    exact hK _ _ (h v' w' h2 h3)

theorem run_slice_nil (A : Addr) (n c : Nat) (w : World) : (binOp .eql 22 (.slice (some A) n c) (.slice none 0 0)).run Try.prog w = .ok (.bool false) w := by
  have h : ∀ d : Nat, (Op.equalIn (d + 1) 22 (.slice (some A) n c) (.slice none 0 0)).run Try.prog w = .ok false w := fun d => by simp [Op.equalIn, run_underlying Try.underlying22]
  simp only [binOp]
  simp [Op.equal, Op.maxDepth, h 9999]

theorem FreshInts.mono {w0 w : World} {xs : List Int} (h0 : Below w0.heap.size w0 w) {e : Ending} {w' : World} (h : FreshInts w xs e w') : FreshInts w0 xs e w' := by
  obtain ⟨v, he, ho, hn, hb⟩ := h
  refine ⟨v, he, ⟨ho.1, ?_⟩, hn, h0.trans (hb.mono h0.size)⟩
  rcases ho.2 with h | ⟨g, cap, cur, e1, e2, e3⟩
  · exact .inl h
  · exact .inr ⟨g, cap, cur, e1, Nat.le_trans h0.size e2, e3⟩

set_option maxRecDepth 100000 in
set_option maxHeartbeats 1000000 in
theorem Clone_two (b off c : Nat) (xs : List Int) (w : World) (hr : RI w (some ⟨b, off, none⟩) xs) (hx : xs ≠ []) (hl : xs.length ≤ 1048576) :
    Calls Try.prog 31 #[.slice (some ⟨b, off, none⟩) xs.length c] w (FreshInts w xs) := by
  have hi64 : ∀ x ∈ xs, I64 x := fun x h => I64.of_mem hr.rng h
  have hb0 : Below w.heap.size w (w.alloc (.cells #[] 3)) := (Below.refl _ _).alloc (Nat.le_refl _) _
  have oW := World.ownsRow_made (base := w.heap.size) (e := 3) (size := 1) w #[] 0 (Nat.le_refl _) (by decide) rfl
  have hnl := fun W => run_slice_nil ⟨b, off, none⟩ xs.length c W
  have hr' := hr.below hb0
  go_enter Try.func31, Try.ntmps31
  go_wp2_with (refine wpList_app rfl _ _ rfl w.heap.size _ rfl [] oW _ _ _ rfl xs rfl hr' (fun e => by cases e) hb0.size (by simp; omega) ?_; intro v' w' h2 h3)
  rw [List.nil_append] at h2
  go_wp2
  go_ret
  refine ⟨v', rfl, h2, ⟨fun e => ?_, fun e => absurd e hx⟩, hb0.trans h3⟩
  subst e
  rcases h2.2 with ⟨_, h⟩ | ⟨g, cap, cur, e1, _⟩
  · exact List.eq_nil_of_length_eq_zero h
  · cases e1

/-- Where an end goes. -/
def toL (t : Tm) : List Int := if isTermB t then (if t.k = 1 then [t.t0] else if t.k = 2 then [t.t0, t.t1] else []) else []

theorem fresh_nil (w w' : World) (hb : Below w.heap.size w w') : FreshInts w [] (.returned (.slice none 0 0)) w' :=
  ⟨_, rfl, World.ownsRow_nil _ _ _ _, by simp, hb⟩

set_option maxRecDepth 100000 in
set_option maxHeartbeats 1000000 in
theorem To_any (t : Tm) (w : World) (ht : t.ok) : Calls Try.prog 25 #[.agg t.val] w (FreshInts w (toL t)) := by
  have q := fun W => IsTerm_any t W ht
  have hbox := blk_new w (.cells t.val 42)
  have hb0 : Below w.heap.size w (w.alloc (.cells t.val 42)) := (Below.refl _ _).alloc (Nat.le_refl _) _
  have hto : toL t = if isTermB t then (if t.k = 1 then [t.t0] else if t.k = 2 then [t.t0, t.t1] else []) else [] := rfl
  obtain ⟨k, a, t0, t1⟩ := t
  obtain ⟨hk, ha, h0, h1⟩ := ht
  simp only at hk ha h0 h1 hto
  have hv : Tm.val ⟨k, a, t0, t1⟩ = #[.int .i64 k, .int .i64 a, .int .i64 t0, .int .i64 t1] := rfl
  rw [hv] at q hbox hb0 ⊢
  generalize isTermB ⟨k, a, t0, t1⟩ = it at *
  cases it
  · rw [hto]
    clear hto
    simp only [Bool.false_eq_true, if_false]
    go_enter Try.func25, Try.ntmps25
    go_wp2_with fail
    refine (q _).mono ?_
    rintro e w' ⟨rfl, hb⟩
    go_wp2
    go_ret
    exact fresh_nil _ _ (hb0.trans (hb.mono hb0.size))
  · rw [hto]
    clear hto
    simp only [if_true]
    by_cases k1 : k = 1
    · subst k1
      simp only [if_true]
      go_enter Try.func25, Try.ntmps25
      go_wp2_with fail
      refine (q _).mono ?_
      rintro e w' ⟨rfl, hb⟩
      have hs := blk_below hb hbox (by simp)
      have hb1 := hb0.trans (hb.mono hb0.size)
      have hc0 : w'.cell? ⟨w.heap.size, 0, none⟩ = some (.int .i64 1) := (cell_of_row w' _ _ _ _ _ hs).trans rfl
      have hc2 : w'.cell? ⟨w.heap.size, 2, none⟩ = some (.int .i64 t0) := (cell_of_row w' _ _ _ _ _ hs).trans rfl
      go_wp2
      go_ret
      have own : (w'.alloc (.cells #[.int .i64 t0] 3)).ownsRow w.heap.size 3 1 (.slice (some ⟨w'.heap.size, 0, none⟩) 1 1) 1 [.int .i64 t0] :=
        ⟨rfl, .inr ⟨w'.heap.size, 1, #[.int .i64 t0], rfl, hb1.size, blk_new w' _, Nat.le_refl _, by decide, rfl, rfl⟩⟩
      exact ⟨_, rfl, own, by simp, hb1.alloc hb1.size _⟩
    · have d1 : decide (k = 1) = false := decide_eq_false k1
      simp only [if_neg k1]
      by_cases k2 : k = 2
      · subst k2
        simp only [if_true]
        go_enter Try.func25, Try.ntmps25
        go_wp2_with fail
        refine (q _).mono ?_
        rintro e w' ⟨rfl, hb⟩
        have hs := blk_below hb hbox (by simp)
        have hb1 := hb0.trans (hb.mono hb0.size)
        have hc0 : w'.cell? ⟨w.heap.size, 0, none⟩ = some (.int .i64 2) := (cell_of_row w' _ _ _ _ _ hs).trans rfl
        have hrd : RI w' (some ⟨w.heap.size, 2, none⟩) [t0, t1] := by
          refine ⟨by simp, fun i hi => ?_, fun _ => ⟨w.heap.size, 2, rfl, blk_lt hs, fun i hi => ?_⟩⟩
          · match i, hi with
            | 0, _ => exact h0
            | 1, _ => exact h1
          · rw [cell_of_row _ _ _ _ _ (0, 0) hs]
            match i, hi with
            | 0, _ => rfl
            | 1, _ => rfl
        go_wp2_with fail
        refine (Clone_two w.heap.size 2 2 [t0, t1] w' hrd (by simp) (by simp)).mono ?_
        intro e w2 hf
        obtain ⟨v, rfl, ho, hn, hb2⟩ := FreshInts.mono hb1 hf
        go_wp2
        go_ret
        exact ⟨v, rfl, ho, hn, hb2⟩
      · have d2 : decide (k = 2) = false := decide_eq_false k2
        simp only [if_neg k2]
        go_enter Try.func25, Try.ntmps25
        go_wp2_with fail
        refine (q _).mono ?_
        rintro e w' ⟨rfl, hb⟩
        have hs := blk_below hb hbox (by simp)
        have hb1 := hb0.trans (hb.mono hb0.size)
        have hc0 : w'.cell? ⟨w.heap.size, 0, none⟩ = some (.int .i64 k) := (cell_of_row w' _ _ _ _ _ hs).trans rfl
        go_wp2
        go_ret
        exact fresh_nil _ _ hb1

end Go.Proofs.Ytjichaeegheacaa
