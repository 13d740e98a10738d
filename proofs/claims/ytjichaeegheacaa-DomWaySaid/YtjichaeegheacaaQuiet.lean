
/-
  Drawn regions whose operations read and call: one step each, in a class of worlds of one's own. And the equality of two sets.
-/
import Derived.Test.YtjichaeegheacaaBitsA
import Derived.Lib.QuietBelow
namespace Go.Proofs.Ytjichaeegheacaa
open Go Go.RowKit

section
variable {P : Program} {C : World → Prop} {a : Act} {o : Oper} {K : Act → Prop}
theorem q_load (ty : TypeId) (x : Operand) (ho : o.op = .load ty x) (g : Nat) (hx : a.eval x = .pointer (some ⟨g, 0, none⟩)) (t : TypeId) (cs : Array Value) (fr : Nat × Nat) (d : TypeDesc)
    (hg : ∀ W, C W → W.heap[g]? = some (.cells cs t fr)) (hu : P.underlying ty = some d) (hd : (match d with | .struct _ | .array _ _ => true | _ => false) = true) (hi : (P.info? ty).map (·.size) = some cs.size)
    (hk : K (a.put o.dst (.agg cs))) : o.quiet P a C K := by
  refine ⟨.agg cs, fun W hW => ?_, hk⟩
  unfold Oper.quietAt execOp
  simp only [ho, hx, Instr.loadAt, Instr.sureAddr, Sem.run_bind, Sem.run_pure, Result.andThen_ok, run_loadVar_row W g t ty cs fr d (hg W hW) hu hd hi, Oper.quietUpon, and_self]
theorem q_load1 (ty : TypeId) (x : Operand) (ho : o.op = .load ty x) (p : Addr) (hx : a.eval x = .pointer (some p)) (k : IntKind) (hu : P.underlying ty = some (.int k)) (v : Value) (hc : ∀ W, C W → W.cell? p = some v)
    (hk : K (a.put o.dst v)) : o.quiet P a C K := by
  refine ⟨v, fun W hW => ?_, hk⟩
  unfold Oper.quietAt execOp
  have h := hc W hW
  simp [ho, hx, Instr.loadAt, Instr.sureAddr, loadVar, isAgg, run_underlying hu, h, Oper.quietUpon]
theorem run_callFunc_own {f : FuncId} (hf : (P.funcs[f]?).map (fun fn => (fn.name == "runtime.NumGoroutine", fn.body.isNone)) = some (false, false)) (args : Array Value) (w : World) :
    (callFunc f args).run P w = .ok (.enter f args) w := by
  cases h : P.funcs[f]? with
  | none => rw [h] at hf; cases hf
  | some fn =>
    rw [h] at hf
    simp only [Option.map_some, Option.some.injEq, Prod.mk.injEq] at hf
    have h1 := hf.1
    have h2 := hf.2
    simp only [callFunc, Sem.run_bind, run_program, Result.andThen_ok, h, h1, h2, Bool.false_eq_true, if_false, Sem.run_pure]
theorem q_call (f : FuncId) (xs : Array Operand) (ats : Array TypeId) (ho : o.op = .call { callee := .value (.func f), args := xs, argTypes := ats }) (args : Array Value) (ha : xs.map a.eval = args)
    (hf : (P.funcs[f]?).map (fun fn => (fn.name == "runtime.NumGoroutine", fn.body.isNone)) = some (false, false)) (v : Value)
    (hc : ∀ W, C W → Calls P f args W fun e w' => e = .returned v ∧ C w') (hk : K (a.put o.dst v)) : o.quiet P a C K := by
  refine ⟨v, fun W hW => ?_, hk⟩
  have he : (execOp a.eval o).run P W = .ok (.enter f args) W := by
    unfold execOp
    subst ha
    simp [ho, resolve, Deferred.ofValue, Act.eval, invoke, run_callFunc_own hf]
  unfold Oper.quietAt
  rw [he]
  exact ⟨rfl, hc W hW⟩
theorem q_pickT (c x y : Operand) (ho : o.op = .pick c x y) (hb : a.eval c = .bool true) (u : Value) (hu : a.eval x = u) (hk : K (a.put o.dst u)) : o.quiet P a C K := by
  refine ⟨u, fun W hW => ?_, hk⟩
  unfold Oper.quietAt execOp
  simp [ho, hb, hu, asBool, Oper.quietUpon]
theorem q_pickF (c x y : Operand) (ho : o.op = .pick c x y) (hb : a.eval c = .bool false) (u : Value) (hu : a.eval y = u) (hk : K (a.put o.dst u)) : o.quiet P a C K := by
  refine ⟨u, fun W hW => ?_, hk⟩
  unfold Oper.quietAt execOp
  simp [ho, hb, hu, asBool, Oper.quietUpon]
theorem q_call1 (f : FuncId) (x : Operand) (ats : Array TypeId) (ho : o.op = .call { callee := .value (.func f), args := #[x], argTypes := ats }) (u : Value) (hu : a.eval x = u)
    (hf : (P.funcs[f]?).map (fun fn => (fn.name == "runtime.NumGoroutine", fn.body.isNone)) = some (false, false)) (v : Value)
    (hc : ∀ W, C W → Calls P f #[u] W fun e w' => e = .returned v ∧ C w') (hk : K (a.put o.dst v)) : o.quiet P a C K :=
  q_call f _ ats ho #[u] (by simp [hu]) hf v hc hk
theorem q_call2 (f : FuncId) (x y : Operand) (ats : Array TypeId) (ho : o.op = .call { callee := .value (.func f), args := #[x, y], argTypes := ats }) (u : Value) (hu : a.eval x = u) (u' : Value) (hu' : a.eval y = u')
    (hf : (P.funcs[f]?).map (fun fn => (fn.name == "runtime.NumGoroutine", fn.body.isNone)) = some (false, false)) (v : Value)
    (hc : ∀ W, C W → Calls P f #[u, u'] W fun e w' => e = .returned v ∧ C w') (hk : K (a.put o.dst v)) : o.quiet P a C K :=
  q_call f _ ats ho #[u, u'] (by simp [hu, hu']) hf v hc hk
/-- A contract of a call that only makes memory, in the class 'below that is as it was'. -/
theorem fresh_class {f : FuncId} {args : Array Value} {W0 : World} {v : Value} (h : ∀ W, Below W0.heap.size W0 W → Calls P f args W (Fresh W v)) :
    ∀ W, Below W0.heap.size W0 W → Calls P f args W fun e w' => e = .returned v ∧ Below W0.heap.size W0 w' :=
  fun W hW => (h W hW).mono fun _ _ hh => ⟨hh.1, hW.trans (hh.2.mono hW.size)⟩
/-- An operation whose value is known, as a move of that value: so that the kit's own step writes the frame. -/
theorem q_get {dst : Option Tmp} {v : Value} {t : TypeId} {pos : String} {aft : Array Edge} {gd : Option (Nat × Bool)} (hne : ∃ W, C W) (h : (Oper.mk dst (.move (.const v)) t pos aft gd).quiet P a C K) : K (a.put dst v) := by
  obtain ⟨v', h1, h2⟩ := h
  obtain ⟨W, hW⟩ := hne
  have := h1 W hW
  unfold Oper.quietAt at this
  rw [BigFrame.run_move (.const v) rfl] at this
  obtain ⟨_, e⟩ := this
  subst e
  exact h2
theorem q_go {dst : Option Tmp} {op : Op} {v : Value} {t : TypeId} {pos : String} {aft : Array Edge} {gd : Option (Nat × Bool)} (hne : ∃ W, C W) (hq : ∀ K' : Act → Prop, K' (a.put dst v) → (Oper.mk dst op t pos aft gd).quiet P a C K')
    (h : (Oper.mk dst (.move (.const v)) t pos aft gd).quiet P a C K) : (Oper.mk dst op t pos aft gd).quiet P a C K := hq K (q_get hne h)
theorem q_pick (c x y : Operand) (ho : o.op = .pick c x y) (b : Bool) (hb : a.eval c = .bool b) (hk : K (a.put o.dst (if b then a.eval x else a.eval y))) : o.quiet P a C K := by
  refine ⟨_, fun W hW => ?_, hk⟩
  unfold Oper.quietAt execOp
  simp [ho, hb, asBool, Oper.quietUpon]
end

/-- The region that draws, walked in the class 'below that is as it was'. -/
theorem wp_region_fresh {P : Program} {id : Nat} {Q : Exit → Act → World → Prop} {a : Act} {w : World} {l : List Oper} (hm : P.follows .mixedOrders = true) (hB : Region.lexB .any l.toArray = true)
    (h : wpQuiet P l.toArray (fun W => Below w.heap.size w W) (fun a' => ∀ W, Below w.heap.size w W → Q .normal a' W) l a) : (Code.region id l.toArray true).wp P Q a w :=
  wp_region_quiet (C := fun W => Below w.heap.size w W) hm hB (Below.refl _ _).drew (by simpa using h)

/-- The same class in the library's own words: its walk sees through them, so that operations that ask nothing of the world run by themselves. -/
theorem below_of_grow {w W : World} (h : ∃ p : Regrown, W = Sort.grow (redrawn w p.d) p.os) : Below w.heap.size w W := by
  obtain ⟨p, rfl⟩ := h
  exact below_regrown w p.d p.os
theorem fresh_grow {P : Program} {f : FuncId} {args : Array Value} {W0 : World} {v : Value} (h : ∀ W, Below W0.heap.size W0 W → Calls P f args W (Fresh W v)) :
    ∀ W, (∃ p : Regrown, W = Sort.grow (redrawn W0 p.d) p.os) → Calls P f args W fun e w' => e = .returned v ∧ ∃ p : Regrown, w' = Sort.grow (redrawn W0 p.d) p.os :=
  fun W hW => (h W (below_of_grow hW)).mono fun _ _ hh => ⟨hh.1, regrown_of_below ((below_of_grow hW).trans (hh.2.mono (below_of_grow hW).size))⟩

/-- A load under a guard that says yes. -/
theorem wpList_load_rowG {P : Program} {ops : Array Oper} {rest : List Oper} {o : Oper} {a : Act} {w : World} {Q : Exit → Act → World → Prop} (hw : Region.wanted o (yielded ops a.tmps) = true) (ty : TypeId) (x : Operand) (ho : o.op = .load ty x)
    (g : Nat) (hx : a.eval x = .pointer (some ⟨g, 0, none⟩)) (t : TypeId) (cs : Array Value) (fr : Nat × Nat) (d : TypeDesc) (hg : w.heap[g]? = some (.cells cs t fr))
    (hu : P.underlying ty = some d) (hd : (match d with | .struct _ | .array _ _ => true | _ => false) = true) (hi : (P.info? ty).map (·.size) = some cs.size)
    (h : wpList P ops Q rest (a.put o.dst (.agg cs)) w) : wpList P ops Q (o :: rest) a w :=
  BigFrame.wpList_want hw fun _ hK => wp_load_row ty x ho g hx t cs fr d hg hu hd hi (hK _ _ h)

section
variable {P : Program} (w : World)
theorem run_equalIn_setA (d : Nat) (t e : TypeId) (ht : P.underlying t = some (.array 16 e)) (he : P.underlying e = some (.int .u64)) (hsz : ∀ w, (sizeOf e).run P w = .ok 1 w) (N M : Nat) :
    (Op.equalIn (d + 2) t (.agg (setA N)) (.agg (setA M))).run P w = .ok ((List.range 16).all fun i => wd N i == wd M i) w := by
  rw [List.range_eq_range', Op.equalIn]
  simp only [Sem.run_bind, run_underlying ht, Result.andThen_ok, hsz, Std.Legacy.Range.forIn_eq_forIn_range', Std.Legacy.Range.size, Nat.sub_zero, Nat.add_sub_cancel, Nat.div_one]
  have hl : ∀ i ∈ List.range' 0 16 1, i < 16 := fun i hi => by simpa using (List.mem_range'_1.1 hi).2
  generalize List.range' 0 16 1 = l at hl ⊢
  induction l with
  | nil => simp
  | cons i l ih =>
    have hi : i < 16 := hl i (by simp)
    have px : ∀ N, (part e (setA N) (i * 1)).run P w = .ok (.int .u64 (wd N i : Nat)) w := fun N => by
      have := setA_get N i hi
      simp [part, isAgg, run_underlying he, this]
    have pe : (Op.equalIn (d + 1) e (.int .u64 (wd N i : Nat)) (.int .u64 (wd M i : Nat))).run P w = .ok (wd N i == wd M i) w := by
      rw [run_equalIn_int w d e .u64 .u64 _ _ he]
      congr 1
      rw [Bool.eq_iff_iff]
      simp only [beq_iff_eq, Int.natCast_inj]
    simp only [List.forIn_cons, Sem.run_bind, px, pe, Result.andThen_ok, List.all_cons]
    cases hb : (wd N i == wd M i)
    · simp
    · simp only [Bool.not_true, Bool.false_eq_true, if_false, Sem.run_pure, Result.andThen_ok, Bool.true_and]
      exact ih fun j hj => hl j (by simp [hj])

theorem all_range_sets {N M : Nat} (hN : Sm N) (hM : Sm M) : ((List.range 16).all fun i => wd N i == wd M i) = decide (N = M) := by
  rw [Bool.eq_iff_iff, decide_eq_true_iff, List.all_eq_true]
  constructor
  · intro h
    refine setA_inj hN hM (setA_of (setA_size _) fun i hi => ?_)
    rw [setA_get _ _ hi]
    have := h i (List.mem_range.2 hi)
    rw [show wd N i = wd M i by simpa using this]
  · rintro rfl i _; simp

theorem run_eql_sets (t e : TypeId) (ht : P.underlying t = some (.array 16 e)) (he : P.underlying e = some (.int .u64)) (hsz : ∀ w, (sizeOf e).run P w = .ok 1 w) {N M : Nat} (hN : Sm N) (hM : Sm M) :
    (binOp .eql t (.agg (setA N)) (.agg (setA M))).run P w = .ok (.bool (decide (N = M))) w := by
  rw [run_eql_struct, run_equalIn_setA w 9998 t e ht he hsz, all_range_sets hN hM]
  rfl
end

theorem szU64 (w : World) : (sizeOf 73).run Try.prog w = .ok 1 w := by
  have h : (Try.prog.info? 73).map (·.size) = some 1 := by kernel_rfl
  cases hq : Try.prog.info? 73 with
  | none => rw [hq] at h; cases h
  | some i => rw [hq] at h; simp at h; simp [sizeOf, typeInfo, run_program, hq, h]

section
variable {C : World → Prop} {a : Act} {o : Oper} {K : Act → Prop}
theorem q_sets_eq (x y : Operand) (N M : Nat) (ho : o.op = .binOp .eql 75 x y 75) (hx : a.eval x = .agg (setA N)) (hy : a.eval y = .agg (setA M)) (hN : Sm N) (e : N = M) (hk : K (a.put o.dst (.bool true))) :
    o.quiet Try.prog a C K := by
  refine ⟨.bool true, fun W hW => ?_, hk⟩
  subst e
  unfold Oper.quietAt execOp
  simp only [ho, hx, hy]
  have hg : (eqGuard .eql 75 x y (.agg (setA N)) (.agg (setA N))).run Try.prog W = .ok () W := run_eqGuard_agg W _ _ _ _ _ _ (by kernel_rfl)
  have he := run_eql_sets (P := Try.prog) W 75 73 (by kernel_rfl) (by kernel_rfl) szU64 hN hN
  rw [decide_eq_true rfl] at he
  simp [Sem.run_bind, hg, he, Oper.quietUpon]
theorem q_sets_eqb (x y : Operand) (N M : Nat) (ho : o.op = .binOp .eql 75 x y 75) (hx : a.eval x = .agg (setA N)) (hy : a.eval y = .agg (setA M)) (hN : Sm N) (hM : Sm M) (b : Bool) (e : decide (N = M) = b) (hk : K (a.put o.dst (.bool b))) :
    o.quiet Try.prog a C K := by
  refine ⟨.bool b, fun W hW => ?_, hk⟩
  unfold Oper.quietAt execOp
  simp only [ho, hx, hy]
  have hg : (eqGuard .eql 75 x y (.agg (setA N)) (.agg (setA M))).run Try.prog W = .ok () W := run_eqGuard_agg W _ _ _ _ _ _ (by kernel_rfl)
  have he := run_eql_sets (P := Try.prog) W 75 73 (by kernel_rfl) (by kernel_rfl) szU64 hN hM
  rw [e] at he
  simp [Sem.run_bind, hg, he, Oper.quietUpon]
theorem q_sets_ne (x y : Operand) (N M : Nat) (ho : o.op = .binOp .neq 75 x y 75) (hx : a.eval x = .agg (setA N)) (hy : a.eval y = .agg (setA M)) (hN : Sm N) (e : N = M) (hk : K (a.put o.dst (.bool false))) :
    o.quiet Try.prog a C K := by
  refine ⟨.bool false, fun W hW => ?_, hk⟩
  subst e
  unfold Oper.quietAt execOp
  simp only [ho, hx, hy]
  have hg : (eqGuard .neq 75 x y (.agg (setA N)) (.agg (setA N))).run Try.prog W = .ok () W := run_eqGuard_agg W _ _ _ _ _ _ (by kernel_rfl)
  have he : (binOp .neq 75 (.agg (setA N)) (.agg (setA N))).run Try.prog W = .ok (.bool false) W := by
    rw [run_neq_struct, run_equalIn_setA (P := Try.prog) W 9998 75 73 (by kernel_rfl) (by kernel_rfl) szU64, all_range_sets hN hN, decide_eq_true rfl]
    rfl
  simp [Sem.run_bind, hg, he, Oper.quietUpon]
theorem q_bool_ne (x y : Operand) (b : Bool) (ho : o.op = .binOp .neq 4 x y 4) (hx : a.eval x = .bool b) (hy : a.eval y = .bool b) (hk : K (a.put o.dst (.bool false))) : o.quiet Try.prog a C K := by
  refine ⟨.bool false, fun W hW => ?_, hk⟩
  unfold Oper.quietAt execOp
  simp only [ho, hx, hy]
  simp [go_sem, Oper.quietUpon, Try.underlying4]
theorem q_int_ne (x y : Operand) (n : Int) (ho : o.op = .binOp .neq 3 x y 3) (hx : a.eval x = .int .i64 n) (hy : a.eval y = .int .i64 n) (hk : K (a.put o.dst (.bool false))) : o.quiet Try.prog a C K := by
  refine ⟨.bool false, fun W hW => ?_, hk⟩
  unfold Oper.quietAt execOp
  simp only [ho, hx, hy]
  simp [go_sem, Oper.quietUpon]
theorem q_build_set (ho : o.op = .build 75 #[]) (hk : K (a.put o.dst (.agg (setA 0)))) : o.quiet Try.prog a C K := by
  refine ⟨.agg (setA 0), fun W hW => ?_, hk⟩
  unfold Oper.quietAt
  have he : (execOp a.eval o).run Try.prog W = .ok (.value (.agg (setA 0))) W := by
    unfold execOp
    simp only [ho]
    kernel_rfl
  rw [he]
  exact ⟨rfl, rfl⟩
end

end Go.Proofs.Ytjichaeegheacaa
