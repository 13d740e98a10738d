/-
  Quiet Small IsTerm To Func Each
-/
import Derived.Test.YtjichaeegheacaaGreatDoorFT1
import Derived.Lib.QuietBelow
import Derived.RangeFuncBound

/- Quiet -/
/-
  Drawn regions whose operations read and call: one step each, in a class of worlds of one's own. And the equality of two sets.
-/
namespace Go.Proofs.YtjichaeegheacaaGreatDoor
open Go Go.RowKit

section
variable {P : Program} {C : World → Prop} {a : Act} {o : Oper} {K : Act → Prop}
theorem q_load (ty : TypeId) (x : Operand) (ho : o.op = .load ty x) (g : Nat) (hx : a.eval x = .pointer (some ⟨g, 0, none⟩)) (t : TypeId) (cs : Array Value) (fr : Nat × Nat) (d : TypeDesc)
    (hg : ∀ W, C W → W.heap[g]? = some (.cells cs t fr)) (hu : P.underlying ty = some d) (hd : (match d with | .struct _ | .array _ _ => true | _ => false) = true) (hi : (P.info? ty).map (·.size) = some cs.size)
    (hk : K (a.put o.dst (.agg cs))) : o.quiet P a C K := by
  refine ⟨.agg cs, fun W hW => ?_, hk⟩
  unfold Oper.quietAt execOp
  simp only [ho, hx, Instr.loadAt, Instr.sureAddr, Sem.run_bind, Sem.run_pure, Result.andThen_ok, run_loadVar_row W g t ty cs fr d (hg W hW) hu hd hi, Oper.quietUpon, and_self]
theorem q_load1 (ty : TypeId) (x : Operand) (ho : o.op = .load ty x) (p : Addr) (hx : a.eval x = .pointer (some p)) (k : IntKind) (hu : P.underlying ty = some (.int k)) (v : Value) (hc : ∀ W, C W → W.cell? p = some v)
    (hk : K (a.put o.dst v)) : o.quiet P a C K := by
  refine ⟨v, fun W hW => ?_, hk⟩
  unfold Oper.quietAt execOp
  have h := hc W hW
  simp [ho, hx, Instr.loadAt, Instr.sureAddr, loadVar, isAgg, run_underlying hu, h, Oper.quietUpon]
theorem run_callFunc_own {f : FuncId} (hf : (P.funcs[f]?).map (fun fn => (fn.name == "runtime.NumGoroutine", fn.body.isNone)) = some (false, false)) (args : Array Value) (w : World) :
    (callFunc f args).run P w = .ok (.enter f args) w := by
  cases h : P.funcs[f]? with
  | none => rw [h] at hf; cases hf
  | some fn =>
    rw [h] at hf
    simp only [Option.map_some, Option.some.injEq, Prod.mk.injEq] at hf
    have h1 := hf.1
    have h2 := hf.2
    simp only [callFunc, Sem.run_bind, run_program, Result.andThen_ok, h, h1, h2, Bool.false_eq_true, if_false, Sem.run_pure]
theorem q_call (f : FuncId) (xs : Array Operand) (ats : Array TypeId) (ho : o.op = .call { callee := .value (.func f), args := xs, argTypes := ats }) (args : Array Value) (ha : xs.map a.eval = args)
    (hf : (P.funcs[f]?).map (fun fn => (fn.name == "runtime.NumGoroutine", fn.body.isNone)) = some (false, false)) (v : Value)
    (hc : ∀ W, C W → Calls P f args W fun e w' => e = .returned v ∧ C w') (hk : K (a.put o.dst v)) : o.quiet P a C K := by
  refine ⟨v, fun W hW => ?_, hk⟩
  have he : (execOp a.eval o).run P W = .ok (.enter f args) W := by
    unfold execOp
    subst ha
    simp [ho, resolve, Deferred.ofValue, Act.eval, invoke, run_callFunc_own hf]
  unfold Oper.quietAt
  rw [he]
  exact ⟨rfl, hc W hW⟩
theorem q_pickT (c x y : Operand) (ho : o.op = .pick c x y) (hb : a.eval c = .bool true) (u : Value) (hu : a.eval x = u) (hk : K (a.put o.dst u)) : o.quiet P a C K := by
  refine ⟨u, fun W hW => ?_, hk⟩
  unfold Oper.quietAt execOp
  simp [ho, hb, hu, asBool, Oper.quietUpon]
theorem q_pickF (c x y : Operand) (ho : o.op = .pick c x y) (hb : a.eval c = .bool false) (u : Value) (hu : a.eval y = u) (hk : K (a.put o.dst u)) : o.quiet P a C K := by
  refine ⟨u, fun W hW => ?_, hk⟩
  unfold Oper.quietAt execOp
  simp [ho, hb, hu, asBool, Oper.quietUpon]
theorem q_call1 (f : FuncId) (x : Operand) (ats : Array TypeId) (ho : o.op = .call { callee := .value (.func f), args := #[x], argTypes := ats }) (u : Value) (hu : a.eval x = u)
    (hf : (P.funcs[f]?).map (fun fn => (fn.name == "runtime.NumGoroutine", fn.body.isNone)) = some (false, false)) (v : Value)
    (hc : ∀ W, C W → Calls P f #[u] W fun e w' => e = .returned v ∧ C w') (hk : K (a.put o.dst v)) : o.quiet P a C K :=
  q_call f _ ats ho #[u] (by simp [hu]) hf v hc hk
theorem q_call2 (f : FuncId) (x y : Operand) (ats : Array TypeId) (ho : o.op = .call { callee := .value (.func f), args := #[x, y], argTypes := ats }) (u : Value) (hu : a.eval x = u) (u' : Value) (hu' : a.eval y = u')
    (hf : (P.funcs[f]?).map (fun fn => (fn.name == "runtime.NumGoroutine", fn.body.isNone)) = some (false, false)) (v : Value)
    (hc : ∀ W, C W → Calls P f #[u, u'] W fun e w' => e = .returned v ∧ C w') (hk : K (a.put o.dst v)) : o.quiet P a C K :=
  q_call f _ ats ho #[u, u'] (by simp [hu, hu']) hf v hc hk
/-- A contract of a call that only makes memory, in the class 'below that is as it was'. -/
theorem fresh_class {f : FuncId} {args : Array Value} {W0 : World} {v : Value} (h : ∀ W, Below W0.heap.size W0 W → Calls P f args W (Fresh W v)) :
    ∀ W, Below W0.heap.size W0 W → Calls P f args W fun e w' => e = .returned v ∧ Below W0.heap.size W0 w' :=
  fun W hW => (h W hW).mono fun _ _ hh => ⟨hh.1, hW.trans (hh.2.mono hW.size)⟩
/-- An operation whose value is known, as a move of that value: so that the kit's own step writes the frame. -/
theorem q_get {dst : Option Tmp} {v : Value} {t : TypeId} {pos : String} {aft : Array Edge} {gd : Option (Nat × Bool)} (hne : ∃ W, C W) (h : (Oper.mk dst (.move (.const v)) t pos aft gd).quiet P a C K) : K (a.put dst v) := by
  obtain ⟨v', h1, h2⟩ := h
  obtain ⟨W, hW⟩ := hne
  have := h1 W hW
  unfold Oper.quietAt at this
  rw [BigFrame.run_move (.const v) rfl] at this
  obtain ⟨_, e⟩ := this
  subst e
  exact h2
theorem q_go {dst : Option Tmp} {op : Op} {v : Value} {t : TypeId} {pos : String} {aft : Array Edge} {gd : Option (Nat × Bool)} (hne : ∃ W, C W) (hq : ∀ K' : Act → Prop, K' (a.put dst v) → (Oper.mk dst op t pos aft gd).quiet P a C K')
    (h : (Oper.mk dst (.move (.const v)) t pos aft gd).quiet P a C K) : (Oper.mk dst op t pos aft gd).quiet P a C K := hq K (q_get hne h)
theorem q_pick (c x y : Operand) (ho : o.op = .pick c x y) (b : Bool) (hb : a.eval c = .bool b) (hk : K (a.put o.dst (if b then a.eval x else a.eval y))) : o.quiet P a C K := by
  refine ⟨_, fun W hW => ?_, hk⟩
  unfold Oper.quietAt execOp
  simp [ho, hb, asBool, Oper.quietUpon]
end

/-- The region that draws, walked in the class 'below that is as it was'. -/
theorem wp_region_fresh {P : Program} {id : Nat} {Q : Exit → Act → World → Prop} {a : Act} {w : World} {l : List Oper} (hm : P.follows .mixedOrders = true) (hB : Region.lexB .any l.toArray = true)
    (h : wpQuiet P l.toArray (fun W => Below w.heap.size w W) (fun a' => ∀ W, Below w.heap.size w W → Q .normal a' W) l a) : (Code.region id l.toArray true).wp P Q a w :=
  wp_region_quiet (C := fun W => Below w.heap.size w W) hm hB (Below.refl _ _).drew (by simpa using h)

/-- The same class in the library's own words: its walk sees through them, so that operations that ask nothing of the world run by themselves. -/
theorem below_of_grow {w W : World} (h : ∃ p : Regrown, W = Sort.grow (redrawn w p.d) p.os) : Below w.heap.size w W := by
  obtain ⟨p, rfl⟩ := h
  exact below_regrown w p.d p.os
theorem fresh_grow {P : Program} {f : FuncId} {args : Array Value} {W0 : World} {v : Value} (h : ∀ W, Below W0.heap.size W0 W → Calls P f args W (Fresh W v)) :
    ∀ W, (∃ p : Regrown, W = Sort.grow (redrawn W0 p.d) p.os) → Calls P f args W fun e w' => e = .returned v ∧ ∃ p : Regrown, w' = Sort.grow (redrawn W0 p.d) p.os :=
  fun W hW => (h W (below_of_grow hW)).mono fun _ _ hh => ⟨hh.1, regrown_of_below ((below_of_grow hW).trans (hh.2.mono (below_of_grow hW).size))⟩

/-- A load under a guard that says yes. -/
theorem wpList_load_rowG {P : Program} {ops : Array Oper} {rest : List Oper} {o : Oper} {a : Act} {w : World} {Q : Exit → Act → World → Prop} (hw : Region.wanted o (yielded ops a.tmps) = true) (ty : TypeId) (x : Operand) (ho : o.op = .load ty x)
    (g : Nat) (hx : a.eval x = .pointer (some ⟨g, 0, none⟩)) (t : TypeId) (cs : Array Value) (fr : Nat × Nat) (d : TypeDesc) (hg : w.heap[g]? = some (.cells cs t fr))
    (hu : P.underlying ty = some d) (hd : (match d with | .struct _ | .array _ _ => true | _ => false) = true) (hi : (P.info? ty).map (·.size) = some cs.size)
    (h : wpList P ops Q rest (a.put o.dst (.agg cs)) w) : wpList P ops Q (o :: rest) a w :=
  BigFrame.wpList_want hw fun _ hK => wp_load_row ty x ho g hx t cs fr d hg hu hd hi (hK _ _ h)

section
variable {P : Program} (w : World)
theorem run_equalIn_setA (d : Nat) (t e : TypeId) (ht : P.underlying t = some (.array 16 e)) (he : P.underlying e = some (.int .u64)) (hsz : ∀ w, (sizeOf e).run P w = .ok 1 w) (N M : Nat) :
    (Op.equalIn (d + 2) t (.agg (setA N)) (.agg (setA M))).run P w = .ok ((List.range 16).all fun i => wd N i == wd M i) w := by
  rw [List.range_eq_range', Op.equalIn]
  simp only [Sem.run_bind, run_underlying ht, Result.andThen_ok, hsz, Std.Legacy.Range.forIn_eq_forIn_range', Std.Legacy.Range.size, Nat.sub_zero, Nat.add_sub_cancel, Nat.div_one]
  have hl : ∀ i ∈ List.range' 0 16 1, i < 16 := fun i hi => by simpa using (List.mem_range'_1.1 hi).2
  generalize List.range' 0 16 1 = l at hl ⊢
  induction l with
  | nil => simp
  | cons i l ih =>
    have hi : i < 16 := hl i (by simp)
    have px : ∀ N, (part e (setA N) (i * 1)).run P w = .ok (.int .u64 (wd N i : Nat)) w := fun N => by
      have := setA_get N i hi
      simp [part, isAgg, run_underlying he, this]
    have pe : (Op.equalIn (d + 1) e (.int .u64 (wd N i : Nat)) (.int .u64 (wd M i : Nat))).run P w = .ok (wd N i == wd M i) w := by
      rw [run_equalIn_int w d e .u64 .u64 _ _ he]
      congr 1
      rw [Bool.eq_iff_iff]
      simp only [beq_iff_eq, Int.natCast_inj]
    simp only [List.forIn_cons, Sem.run_bind, px, pe, Result.andThen_ok, List.all_cons]
    cases hb : (wd N i == wd M i)
    · simp
    · simp only [Bool.not_true, Bool.false_eq_true, if_false, Sem.run_pure, Result.andThen_ok, Bool.true_and]
      exact ih fun j hj => hl j (by simp [hj])

theorem all_range_sets {N M : Nat} (hN : Sm N) (hM : Sm M) : ((List.range 16).all fun i => wd N i == wd M i) = decide (N = M) := by
  rw [Bool.eq_iff_iff, decide_eq_true_iff, List.all_eq_true]
  constructor
  · intro h
    refine setA_inj hN hM (setA_of (setA_size _) fun i hi => ?_)
    rw [setA_get _ _ hi]
    have := h i (List.mem_range.2 hi)
    rw [show wd N i = wd M i by simpa using this]
  · rintro rfl i _; simp

theorem run_eql_sets (t e : TypeId) (ht : P.underlying t = some (.array 16 e)) (he : P.underlying e = some (.int .u64)) (hsz : ∀ w, (sizeOf e).run P w = .ok 1 w) {N M : Nat} (hN : Sm N) (hM : Sm M) :
    (binOp .eql t (.agg (setA N)) (.agg (setA M))).run P w = .ok (.bool (decide (N = M))) w := by
  rw [run_eql_struct, run_equalIn_setA w 9998 t e ht he hsz, all_range_sets hN hM]
  rfl
end

theorem szU64 (w : World) : (sizeOf 68).run Tryz.prog w = .ok 1 w := by
  have h : (Tryz.prog.info? 68).map (·.size) = some 1 := by kernel_rfl
  cases hq : Tryz.prog.info? 68 with
  | none => rw [hq] at h; cases h
  | some i => rw [hq] at h; simp at h; simp [sizeOf, typeInfo, run_program, hq, h]

section
variable {C : World → Prop} {a : Act} {o : Oper} {K : Act → Prop}
theorem q_sets_eq (x y : Operand) (N M : Nat) (ho : o.op = .binOp .eql 70 x y 70) (hx : a.eval x = .agg (setA N)) (hy : a.eval y = .agg (setA M)) (hN : Sm N) (e : N = M) (hk : K (a.put o.dst (.bool true))) :
    o.quiet Tryz.prog a C K := by
  refine ⟨.bool true, fun W hW => ?_, hk⟩
  subst e
  unfold Oper.quietAt execOp
  simp only [ho, hx, hy]
  have hg : (eqGuard .eql 70 x y (.agg (setA N)) (.agg (setA N))).run Tryz.prog W = .ok () W := run_eqGuard_agg W _ _ _ _ _ _ (by kernel_rfl)
  have he := run_eql_sets (P := Tryz.prog) W 70 68 (by kernel_rfl) (by kernel_rfl) szU64 hN hN
  rw [decide_eq_true rfl] at he
  simp [Sem.run_bind, hg, he, Oper.quietUpon]
theorem q_sets_eqb (x y : Operand) (N M : Nat) (ho : o.op = .binOp .eql 70 x y 70) (hx : a.eval x = .agg (setA N)) (hy : a.eval y = .agg (setA M)) (hN : Sm N) (hM : Sm M) (b : Bool) (e : decide (N = M) = b) (hk : K (a.put o.dst (.bool b))) :
    o.quiet Tryz.prog a C K := by
  refine ⟨.bool b, fun W hW => ?_, hk⟩
  unfold Oper.quietAt execOp
  simp only [ho, hx, hy]
  have hg : (eqGuard .eql 70 x y (.agg (setA N)) (.agg (setA M))).run Tryz.prog W = .ok () W := run_eqGuard_agg W _ _ _ _ _ _ (by kernel_rfl)
  have he := run_eql_sets (P := Tryz.prog) W 70 68 (by kernel_rfl) (by kernel_rfl) szU64 hN hM
  rw [e] at he
  simp [Sem.run_bind, hg, he, Oper.quietUpon]
theorem q_sets_ne (x y : Operand) (N M : Nat) (ho : o.op = .binOp .neq 70 x y 70) (hx : a.eval x = .agg (setA N)) (hy : a.eval y = .agg (setA M)) (hN : Sm N) (e : N = M) (hk : K (a.put o.dst (.bool false))) :
    o.quiet Tryz.prog a C K := by
  refine ⟨.bool false, fun W hW => ?_, hk⟩
  subst e
  unfold Oper.quietAt execOp
  simp only [ho, hx, hy]
  have hg : (eqGuard .neq 70 x y (.agg (setA N)) (.agg (setA N))).run Tryz.prog W = .ok () W := run_eqGuard_agg W _ _ _ _ _ _ (by kernel_rfl)
  have he : (binOp .neq 70 (.agg (setA N)) (.agg (setA N))).run Tryz.prog W = .ok (.bool false) W := by
    rw [run_neq_struct, run_equalIn_setA (P := Tryz.prog) W 9998 70 68 (by kernel_rfl) (by kernel_rfl) szU64, all_range_sets hN hN, decide_eq_true rfl]
    rfl
  simp [Sem.run_bind, hg, he, Oper.quietUpon]
theorem q_bool_ne (x y : Operand) (b : Bool) (ho : o.op = .binOp .neq 4 x y 4) (hx : a.eval x = .bool b) (hy : a.eval y = .bool b) (hk : K (a.put o.dst (.bool false))) : o.quiet Tryz.prog a C K := by
  refine ⟨.bool false, fun W hW => ?_, hk⟩
  unfold Oper.quietAt execOp
  simp only [ho, hx, hy]
  simp [go_sem, Oper.quietUpon, Tryz.underlying4]
theorem q_int_ne (x y : Operand) (n : Int) (ho : o.op = .binOp .neq 3 x y 3) (hx : a.eval x = .int .i64 n) (hy : a.eval y = .int .i64 n) (hk : K (a.put o.dst (.bool false))) : o.quiet Tryz.prog a C K := by
  refine ⟨.bool false, fun W hW => ?_, hk⟩
  unfold Oper.quietAt execOp
  simp only [ho, hx, hy]
  simp [go_sem, Oper.quietUpon]
theorem q_build_set (ho : o.op = .build 70 #[]) (hk : K (a.put o.dst (.agg (setA 0)))) : o.quiet Tryz.prog a C K := by
  refine ⟨.agg (setA 0), fun W hW => ?_, hk⟩
  unfold Oper.quietAt
  have he : (execOp a.eval o).run Tryz.prog W = .ok (.value (.agg (setA 0))) W := by
    unfold execOp
    simp only [ho]
    kernel_rfl
  rw [he]
  exact ⟨rfl, rfl⟩
end

end Go.Proofs.YtjichaeegheacaaGreatDoor

/- Small -/
/-
  Small facts of lists of ints, for the seats without law 15.
-/
namespace Go.Proofs.YtjichaeegheacaaGreatDoor
open Go Go.RowKit

theorem contains_take_succ {xs : List Int} {k : Nat} (h : k < xs.length) (n : Int) (hn : (gI xs k == n) = false) (hc : (xs.take k).contains n = false) : (xs.take (k + 1)).contains n = false := by
  rw [List.take_add_one, gI_get h]
  rw [List.contains_eq_any_beq] at hc ⊢
  rw [List.any_append, hc]
  simp only [Option.toList_some, List.any_cons, List.any_nil, Bool.or_false, Bool.false_or]
  rw [BEq.comm]; exact hn

/-- n is not among the first k. -/
def NotYet (xs : List Int) (k : Nat) (n : Int) : Prop := (xs.take k).contains n = false

/-- A slice that a literal lays. -/
theorem RI_lit {w : World} {g : Nat} {t : TypeId} {xs : List Int} (h : w.heap[g]? = some (.cells (xs.map (Value.int .i64)).toArray t (0, 0))) (hx : ∀ x ∈ xs, I64 x) (hl : xs.length ≤ 140737488355328) : RI w (some ⟨g, 0, none⟩) xs := by
  refine ⟨hl, fun i hi => hx _ (gI_mem hi), fun _ => ⟨g, 0, rfl, blk_lt h, fun i hi => ?_⟩⟩
  rw [cell_of_row w g _ _ t (0, 0) h, Nat.zero_add]
  simp [gI_get hi]

end Go.Proofs.YtjichaeegheacaaGreatDoor

/- IsTerm -/
/-
  Package ir: IsTerm.
-/
namespace Go.Proofs.YtjichaeegheacaaGreatDoor
open Go Go.RowKit

/-- An end of a block. -/
structure Tm where
  k : Int
  a : Int
  t0 : Int
  t1 : Int
def Tm.val (t : Tm) : Array Value := #[.int .i64 t.k, .int .i64 t.a, .int .i64 t.t0, .int .i64 t.t1]
def Tm.ok (t : Tm) : Prop := I64 t.k ∧ I64 t.a ∧ I64 t.t0 ∧ I64 t.t1
def varB (x : Int) : Bool := decide (1 ≤ x) && decide (x ≤ 200)
def fitB (b : Bool) (x : Int) : Bool := if b then decide (1 ≤ x) && decide (x ≤ 200) else decide (x = 0)
def noneB (xs : List Int) : Bool := !xs.any (· != 0)
/-- Is it one? -/
def isTermB (t : Tm) : Bool :=
  if t.k = 1 then noneB [t.a, t.t1] else if t.k = 2 then varB t.a else if t.k = 3 then fitB (t.a != 0) t.a && noneB [t.t0, t.t1] else decide (t.k = 4) && noneB [t.a, t.t0, t.t1]

theorem none_lit (xs : List Int) (g : Nat) (ty : TypeId) (c n : Nat) (hn : n = xs.length) (w : World) (h : w.heap[g]? = some (.cells (xs.map (Value.int .i64)).toArray ty (0, 0))) (hx : ∀ x ∈ xs, I64 x) (hl : xs.length ≤ 3) :
    Calls Tryz.prog 110 #[.slice (some ⟨g, 0, none⟩) n c] w (fun e w' => e = .returned (.bool (noneB xs)) ∧ w' = w) := by
  subst hn
  exact none_any _ c xs w (RI_lit h hx (by omega))

set_option maxHeartbeats 1000000 in
theorem IsTerm_any (t : Tm) (w : World) (ht : t.ok) :
    Calls Tryz.prog 83 #[.agg t.val] w (Fresh w (.bool (isTermB t))) := by
  obtain ⟨k, a, t0, t1⟩ := t
  obtain ⟨hk, ha, h0, h1⟩ := ht
  simp only at hk ha h0 h1
  unfold Tm.val
  simp only
  have hb0 : Below w.heap.size w (w.alloc (.cells #[.int .i64 k, .int .i64 a, .int .i64 t0, .int .i64 t1] 47)) := (Below.refl _ _).alloc (Nat.le_refl _) _
  by_cases k1 : k = 1
  · subst k1
    have e : isTermB ⟨1, a, t0, t1⟩ = noneB [a, t1] := rfl
    rw [e]
    go_enter Tryz.func83, Tryz.ntmps83
    go_wp2_with fail
    refine (none_lit [a, t1] (w.heap.size + 1) 3 _ _ rfl _ ?_ ?_ (by simp)).mono ?_
    · have := blk_new (w.alloc (.cells #[.int .i64 1, .int .i64 a, .int .i64 t0, .int .i64 t1] 47)) (.cells #[.int .i64 a, .int .i64 t1] 3)
      rw [World.size_alloc] at this
      exact this
    · intro x hx; simp at hx; rcases hx with rfl | rfl <;> assumption
    rintro e w' ⟨rfl, rfl⟩
    go_wp2
    go_ret
    exact ⟨rfl, hb0.alloc hb0.size _⟩
  · have d1 : decide (k = 1) = false := decide_eq_false k1
    by_cases k2 : k = 2
    · subst k2
      have e : isTermB ⟨2, a, t0, t1⟩ = varB a := rfl
      rw [e]
      have q := variable_any a
      rw [show (decide (1 ≤ a) && decide (a ≤ 200)) = varB a from rfl] at q
      go_enter Tryz.func83, Tryz.ntmps83
      go_wp2_with fail
      refine (q _ ha).mono ?_
      rintro e w' ⟨rfl, rfl⟩
      go_wp2
      go_ret
      exact ⟨rfl, hb0⟩
    · have d2 : decide (k = 2) = false := decide_eq_false k2
      by_cases k3 : k = 3
      · subst k3
        have e : isTermB ⟨3, a, t0, t1⟩ = (fitB (a != 0) a && noneB [t0, t1]) := rfl
        rw [e]
        have q := fits_any (a != 0) a
        rw [show (if (a != 0) = true then decide (1 ≤ a) && decide (a ≤ 200) else decide (a = 0)) = fitB (a != 0) a from rfl] at q
        generalize fitB (a != 0) a = f at *
        have hrd : RI (w.alloc (.cells #[.int .i64 3, .int .i64 a, .int .i64 t0, .int .i64 t1] 47)) (some ⟨w.heap.size, 2, none⟩) [t0, t1] := by
          have hb := blk_new w (.cells #[.int .i64 3, .int .i64 a, .int .i64 t0, .int .i64 t1] 47)
          refine ⟨by simp, fun i hi => ?_, fun _ => ⟨w.heap.size, 2, rfl, blk_lt hb, fun i hi => ?_⟩⟩
          · match i, hi with
            | 0, _ => exact h0
            | 1, _ => exact h1
          · rw [cell_of_row _ _ _ _ _ (0, 0) hb]
            match i, hi with
            | 0, _ => rfl
            | 1, _ => rfl
        have n2 := none_any (some ⟨w.heap.size, 2, none⟩) 2 [t0, t1] _ hrd
        rw [show (!List.any [t0, t1] fun x => x != 0) = noneB [t0, t1] from rfl] at n2
        generalize noneB [t0, t1] = nb at *
        cases f
        · rw [Bool.false_and]
          go_enter Tryz.func83, Tryz.ntmps83
          go_wp2_with fail
          refine (q _ ha).mono ?_
          rintro e w' ⟨rfl, rfl⟩
          go_wp2
          go_ret
          exact ⟨rfl, hb0⟩
        · rw [Bool.true_and]
          go_enter Tryz.func83, Tryz.ntmps83
          go_wp2_with fail
          refine (q _ ha).mono ?_
          rintro e w' ⟨rfl, rfl⟩
          go_wp2_with fail
          refine n2.mono ?_
          rintro e w' ⟨rfl, rfl⟩
          go_wp2
          go_ret
          exact ⟨rfl, hb0⟩
      · have d3 : decide (k = 3) = false := decide_eq_false k3
        by_cases k4 : k = 4
        · subst k4
          have e : isTermB ⟨4, a, t0, t1⟩ = noneB [a, t0, t1] := rfl
          rw [e]
          go_enter Tryz.func83, Tryz.ntmps83
          go_wp2_with fail
          refine (none_lit [a, t0, t1] (w.heap.size + 1) 3 _ _ rfl _ ?_ ?_ (by simp)).mono ?_
          · have := blk_new (w.alloc (.cells #[.int .i64 4, .int .i64 a, .int .i64 t0, .int .i64 t1] 47)) (.cells #[.int .i64 a, .int .i64 t0, .int .i64 t1] 3)
            rw [World.size_alloc] at this
            exact this
          · intro x hx; simp at hx; rcases hx with rfl | rfl | rfl <;> assumption
          rintro e w' ⟨rfl, rfl⟩
          go_wp2
          go_ret
          exact ⟨rfl, hb0.alloc hb0.size _⟩
        · have d4 : decide (k = 4) = false := decide_eq_false k4
          have e : isTermB ⟨k, a, t0, t1⟩ = false := by simp [isTermB, k1, k2, k3, k4]
          rw [e]
          go_enter Tryz.func83, Tryz.ntmps83
          go_wp2
          go_ret
          exact ⟨rfl, hb0⟩

end Go.Proofs.YtjichaeegheacaaGreatDoor

/- To -/
/-
  Package ir: To: where an end goes.
-/
namespace Go.Proofs.YtjichaeegheacaaGreatDoor
open Go Go.RowKit

/-- append of ints onto a row of one's own, in a plain region. -/
theorem wpList_app {ops : Array Oper} {rest : List Oper} {o : Oper} {a : Act} {w : World} {Q : Exit → Act → World → Prop} (hgd : o.guard = none) (s x : Operand)
    (ho : o.op = .call { callee := .builtin .append, args := #[s, x], argTypes := #[22, 22] }) (B : Nat) (v : Value) (hs : a.eval s = v) (xs : List Int) (hown : w.ownsRow B 3 1 v xs.length (xs.map (Value.int .i64)))
    (A : Option Addr) (c m : Nat) (hx : a.eval x = .slice A m c) (ys : List Int) (hm : m = ys.length) (hr : RI w A ys) (hA : A = none → ys = []) (hB : B ≤ w.heap.size) (hl : xs.length + ys.length ≤ 17592186044416)
    (h : ∀ v' w', w'.ownsRow B 3 1 v' (xs ++ ys).length ((xs ++ ys).map (Value.int .i64)) → Below B w w' → wpList Tryz.prog ops Q rest (a.put o.dst v') w') : wpList Tryz.prog ops Q (o :: rest) a w :=
  wpList_plain hgd fun K hK => by
    subst hm
    obtain ⟨v', w', hrun, h2, h3⟩ := app_ints (ty := o.type) hown hr (c := c) hA hB hl
    unfold Oper.wp execOp
    simp only [ho, resolve, invoke, builtin, Sem.run_bind, Sem.run_pure, Result.andThen_ok, List.map_toArray, List.map_cons, List.map_nil, hs, hx, hrun]
    exact hK _ _ (h v' w' h2 h3)

theorem run_slice_nil (A : Addr) (n c : Nat) (w : World) : (binOp .eql 22 (.slice (some A) n c) (.slice none 0 0)).run Tryz.prog w = .ok (.bool false) w := by
  have h : ∀ d : Nat, (Op.equalIn (d + 1) 22 (.slice (some A) n c) (.slice none 0 0)).run Tryz.prog w = .ok false w := fun d => by simp [Op.equalIn, run_underlying Tryz.underlying22]
  simp only [binOp]
  simp [Op.equal, Op.maxDepth, h 9999]

theorem FreshInts.mono {w0 w : World} {xs : List Int} (h0 : Below w0.heap.size w0 w) {e : Ending} {w' : World} (h : FreshInts w xs e w') : FreshInts w0 xs e w' := by
  obtain ⟨v, he, ho, hn, hb⟩ := h
  refine ⟨v, he, ⟨ho.1, ?_⟩, hn, h0.trans (hb.mono h0.size)⟩
  rcases ho.2 with h | ⟨g, cap, cur, e1, e2, e3⟩
  · exact .inl h
  · exact .inr ⟨g, cap, cur, e1, Nat.le_trans h0.size e2, e3⟩

set_option maxRecDepth 100000 in
set_option maxHeartbeats 1000000 in
theorem Clone_two (b off c : Nat) (xs : List Int) (w : World) (hr : RI w (some ⟨b, off, none⟩) xs) (hx : xs ≠ []) (hl : xs.length ≤ 1048576) :
    Calls Tryz.prog 84 #[.slice (some ⟨b, off, none⟩) xs.length c] w (FreshInts w xs) := by
  have hi64 : ∀ x ∈ xs, I64 x := fun x h => I64.of_mem hr.rng h
  have hb0 : Below w.heap.size w (w.alloc (.cells #[] 3)) := (Below.refl _ _).alloc (Nat.le_refl _) _
  have oW := World.ownsRow_made (base := w.heap.size) (e := 3) (size := 1) w #[] 0 (Nat.le_refl _) (by decide) rfl
  have hnl := fun W => run_slice_nil ⟨b, off, none⟩ xs.length c W
  have hr' := hr.below hb0
  go_enter Tryz.func84, Tryz.ntmps84
  go_wp2_with (refine wpList_app rfl _ _ rfl w.heap.size _ rfl [] oW _ _ _ rfl xs rfl hr' (fun e => by cases e) hb0.size (by simp; omega) ?_; intro v' w' h2 h3)
  rw [List.nil_append] at h2
  go_wp2
  go_ret
  refine ⟨v', rfl, h2, ⟨fun e => ?_, fun e => absurd e hx⟩, hb0.trans h3⟩
  subst e
  rcases h2.2 with ⟨_, h⟩ | ⟨g, cap, cur, e1, _⟩
  · exact List.eq_nil_of_length_eq_zero h
  · cases e1

/-- Where an end goes. -/
def toL (t : Tm) : List Int := if isTermB t then (if t.k = 1 then [t.t0] else if t.k = 2 then [t.t0, t.t1] else []) else []

theorem fresh_nil (w w' : World) (hb : Below w.heap.size w w') : FreshInts w [] (.returned (.slice none 0 0)) w' :=
  ⟨_, rfl, World.ownsRow_nil _ _ _ _, by simp, hb⟩

set_option maxRecDepth 100000 in
set_option maxHeartbeats 1000000 in
theorem To_any (t : Tm) (w : World) (ht : t.ok) : Calls Tryz.prog 60 #[.agg t.val] w (FreshInts w (toL t)) := by
  have q := fun W => IsTerm_any t W ht
  have hbox := blk_new w (.cells t.val 47)
  have hb0 : Below w.heap.size w (w.alloc (.cells t.val 47)) := (Below.refl _ _).alloc (Nat.le_refl _) _
  have hto : toL t = if isTermB t then (if t.k = 1 then [t.t0] else if t.k = 2 then [t.t0, t.t1] else []) else [] := rfl
  obtain ⟨k, a, t0, t1⟩ := t
  obtain ⟨hk, ha, h0, h1⟩ := ht
  simp only at hk ha h0 h1 hto
  have hv : Tm.val ⟨k, a, t0, t1⟩ = #[.int .i64 k, .int .i64 a, .int .i64 t0, .int .i64 t1] := rfl
  rw [hv] at q hbox hb0 ⊢
  generalize isTermB ⟨k, a, t0, t1⟩ = it at *
  cases it
  · rw [hto]
    clear hto
    simp only [Bool.false_eq_true, if_false]
    go_enter Tryz.func60, Tryz.ntmps60
    go_wp2_with fail
    refine (q _).mono ?_
    rintro e w' ⟨rfl, hb⟩
    go_wp2
    go_ret
    exact fresh_nil _ _ (hb0.trans (hb.mono hb0.size))
  · rw [hto]
    clear hto
    simp only [if_true]
    by_cases k1 : k = 1
    · subst k1
      simp only [if_true]
      go_enter Tryz.func60, Tryz.ntmps60
      go_wp2_with fail
      refine (q _).mono ?_
      rintro e w' ⟨rfl, hb⟩
      have hs := blk_below hb hbox (by simp)
      have hb1 := hb0.trans (hb.mono hb0.size)
      have hc0 : w'.cell? ⟨w.heap.size, 0, none⟩ = some (.int .i64 1) := (cell_of_row w' _ _ _ _ _ hs).trans rfl
      have hc2 : w'.cell? ⟨w.heap.size, 2, none⟩ = some (.int .i64 t0) := (cell_of_row w' _ _ _ _ _ hs).trans rfl
      go_wp2
      go_ret
      have own : (w'.alloc (.cells #[.int .i64 t0] 3)).ownsRow w.heap.size 3 1 (.slice (some ⟨w'.heap.size, 0, none⟩) 1 1) 1 [.int .i64 t0] :=
        ⟨rfl, .inr ⟨w'.heap.size, 1, #[.int .i64 t0], rfl, hb1.size, blk_new w' _, Nat.le_refl _, by decide, rfl, rfl⟩⟩
      exact ⟨_, rfl, own, by simp, hb1.alloc hb1.size _⟩
    · have d1 : decide (k = 1) = false := decide_eq_false k1
      simp only [if_neg k1]
      by_cases k2 : k = 2
      · subst k2
        simp only [if_true]
        go_enter Tryz.func60, Tryz.ntmps60
        go_wp2_with fail
        refine (q _).mono ?_
        rintro e w' ⟨rfl, hb⟩
        have hs := blk_below hb hbox (by simp)
        have hb1 := hb0.trans (hb.mono hb0.size)
        have hc0 : w'.cell? ⟨w.heap.size, 0, none⟩ = some (.int .i64 2) := (cell_of_row w' _ _ _ _ _ hs).trans rfl
        have hrd : RI w' (some ⟨w.heap.size, 2, none⟩) [t0, t1] := by
          refine ⟨by simp, fun i hi => ?_, fun _ => ⟨w.heap.size, 2, rfl, blk_lt hs, fun i hi => ?_⟩⟩
          · match i, hi with
            | 0, _ => exact h0
            | 1, _ => exact h1
          · rw [cell_of_row _ _ _ _ _ (0, 0) hs]
            match i, hi with
            | 0, _ => rfl
            | 1, _ => rfl
        go_wp2_with fail
        refine (Clone_two w.heap.size 2 2 [t0, t1] w' hrd (by simp) (by simp)).mono ?_
        intro e w2 hf
        obtain ⟨v, rfl, ho, hn, hb2⟩ := FreshInts.mono hb1 hf
        go_wp2
        go_ret
        exact ⟨v, rfl, ho, hn, hb2⟩
      · have d2 : decide (k = 2) = false := decide_eq_false k2
        simp only [if_neg k2]
        go_enter Tryz.func60, Tryz.ntmps60
        go_wp2_with fail
        refine (q _).mono ?_
        rintro e w' ⟨rfl, hb⟩
        have hs := blk_below hb hbox (by simp)
        have hb1 := hb0.trans (hb.mono hb0.size)
        have hc0 : w'.cell? ⟨w.heap.size, 0, none⟩ = some (.int .i64 k) := (cell_of_row w' _ _ _ _ _ hs).trans rfl
        go_wp2
        go_ret
        exact fresh_nil _ _ hb1

end Go.Proofs.YtjichaeegheacaaGreatDoor

/- Func -/
/-
  A function that came in: its blocks, where they lie; its edges.
-/
namespace Go.Proofs.YtjichaeegheacaaGreatDoor
open Go Go.RowKit

/-- A block: its instructions' slice, as it is; its end. -/
structure Blk where
  ins : Value
  t : Tm
instance : Inhabited Blk := ⟨⟨undef, ⟨0, 0, 0, 0⟩⟩⟩
def Blk.cell (b : Blk) : Nat → Value
  | 0 => b.ins
  | 1 => .int .i64 b.t.k
  | 2 => .int .i64 b.t.a
  | 3 => .int .i64 b.t.t0
  | _ => .int .i64 b.t.t1
def Blk.val (b : Blk) : Array Value := #[b.ins, .int .i64 b.t.k, .int .i64 b.t.a, .int .i64 b.t.t0, .int .i64 b.t.t1]
def gB (bs : List Blk) (i : Nat) : Blk := bs[i]?.getD default

theorem gB_eq {bs : List Blk} {i : Nat} (h : i < bs.length) : gB bs i = bs[i] := by simp [gB, h]

theorem int_one (k : IntKind) (n : Int) : (Value.int k n).oneCell' = true := rfl
theorem Blk.val_one {b : Blk} (h : b.ins.oneCell' = true) : b.val.all (·.oneCell') = true := by
  simp [Blk.val, h, int_one]

/-- A slice of blocks. -/
structure RF (w : World) (A : Option Addr) (bs : List Blk) : Prop where
  len : bs.length ≤ 35184372088832
  ok : ∀ i, i < bs.length → (gB bs i).t.ok
  one : ∀ i, i < bs.length → (gB bs i).ins.oneCell' = true
  rd : Rd w A (5 * bs.length) (fun k => (gB bs (k / 5)).cell (k % 5))
theorem RF.below {w w' : World} {A : Option Addr} {bs : List Blk} (h : RF w A bs) (hb : Below w.heap.size w w') : RF w' A bs := ⟨h.len, h.ok, h.one, h.rd.below hb⟩

/-- Block k, where it lies. -/
theorem RF.at_ {w : World} {A : Option Addr} {bs : List Blk} (h : RF w A bs) {k : Nat} (hk : k < bs.length) :
    ∃ b off, A = some ⟨b, off, none⟩ ∧ b < w.heap.size ∧ (gB bs k).t.ok ∧ ∀ j, j < 5 → w.cell? ⟨b, off + 5 * k + j, none⟩ = some ((gB bs k).cell j) := by
  obtain ⟨b, off, e, hlt, hc⟩ := h.rd (by omega)
  refine ⟨b, off, e, hlt, h.ok k hk, fun j hj => ?_⟩
  have := hc (5 * k + j) (by omega)
  rw [show off + (5 * k + j) = off + 5 * k + j by omega] at this
  rw [this]
  show some ((gB bs ((5 * k + j) / 5)).cell ((5 * k + j) % 5)) = _
  rw [show (5 * k + j) / 5 = k by omega, show (5 * k + j) % 5 = j by omega]

/-- The end of block k, where it lies. -/
theorem RF.term {w : World} {A : Option Addr} {bs : List Blk} (h : RF w A bs) {k : Nat} (hk : k < bs.length) :
    ∃ b off, A = some ⟨b, off, none⟩ ∧ b < w.heap.size ∧ (gB bs k).t.ok ∧ ∀ W, Below w.heap.size w W → ∀ j v, (gB bs k).t.val.toList[j]? = some v → W.cell? ⟨b, off + k * 5 + 1 + j, none⟩ = some v := by
  obtain ⟨b, off, e, hlt, hok, hc⟩ := h.at_ hk
  refine ⟨b, off, e, hlt, hok, fun W hW j v hv => ?_⟩
  rw [hW.cell (p := ⟨b, off + k * 5 + 1 + j, none⟩) hlt]
  have hj : j < 4 := (List.getElem?_eq_some_iff.1 hv).1
  have := hc (j + 1) (by omega)
  rw [show off + k * 5 + 1 + j = off + 5 * k + (j + 1) by omega, this, ← hv]
  match j, hj with
  | 0, _ => rfl
  | 1, _ => rfl
  | 2, _ => rfl
  | 3, _ => rfl

/-- An edge: from one block, its arm, to one. -/
structure Ed where
  f : Int
  a : Int
  t : Int
  deriving DecidableEq
def Ed.val (e : Ed) : Array Value := #[.int .i64 e.f, .int .i64 e.a, .int .i64 e.t]
/-- The edges of one block: of its arms ahead of m. -/
def armE (b : Nat) (l : List Int) (m : Nat) : List Ed := (List.range m).map fun i : Nat => ⟨b, i, gI l i⟩
/-- All edges of the blocks ahead of k. -/
def edgesTo (bs : List Blk) : Nat → List Ed
  | 0 => []
  | k + 1 => edgesTo bs k ++ armE k (toL (gB bs k).t) (toL (gB bs k).t).length
def edgesOf (bs : List Blk) : List Ed := edgesTo bs bs.length
theorem armE_succ (b : Nat) (l : List Int) (m : Nat) : armE b l (m + 1) = armE b l m ++ [⟨b, m, gI l m⟩] := by simp [armE, List.range_succ]
theorem toL_len (t : Tm) : (toL t).length ≤ 2 := by
  unfold toL
  split <;> (try split) <;> (try split) <;> simp

theorem armE_len (b : Nat) (l : List Int) (m : Nat) : (armE b l m).length = m := by simp [armE]
theorem edgesTo_len (bs : List Blk) : ∀ k, (edgesTo bs k).length ≤ 2 * k
  | 0 => Nat.le_refl _
  | k + 1 => by
    have := edgesTo_len bs k
    have h2 := toL_len (gB bs k).t
    rw [edgesTo, List.length_append, armE_len]; omega
theorem armE_pre (b : Nat) (l : List Int) {m n : Nat} (h : m ≤ n) : armE b l m <+: armE b l n := by
  obtain ⟨d, rfl⟩ : ∃ d, n = m + d := ⟨n - m, by omega⟩
  clear h
  induction d with
  | zero => exact List.prefix_refl _
  | succ d ih => rw [show m + (d + 1) = (m + d) + 1 by omega, armE_succ]; exact ih.trans (List.prefix_append _ _)
theorem edgesTo_pre (bs : List Blk) {m n : Nat} (h : m ≤ n) : edgesTo bs m <+: edgesTo bs n := by
  obtain ⟨d, rfl⟩ : ∃ d, n = m + d := ⟨n - m, by omega⟩
  clear h
  induction d with
  | zero => exact List.prefix_refl _
  | succ d ih => rw [show m + (d + 1) = (m + d) + 1 by omega, edgesTo]; exact ih.trans (List.prefix_append _ _)
theorem edges_pre (bs : List Blk) {k m : Nat} (hk : k < bs.length) (hm : m ≤ (toL (gB bs k).t).length) : edgesTo bs k ++ armE k (toL (gB bs k).t) m <+: edgesOf bs := by
  refine List.IsPrefix.trans ?_ (edgesTo_pre bs (show k + 1 ≤ bs.length from hk))
  rw [edgesTo]
  exact (List.prefix_append_right_inj _).2 (armE_pre _ _ hm)

end Go.Proofs.YtjichaeegheacaaGreatDoor

/- Each -/
/-
  Package flow: each: the iterator over all edges.
-/
namespace Go.Proofs.YtjichaeegheacaaGreatDoor
open Go Go.RowKit
attribute [local go_sem] Oper.semAt_some

/-- What a loop over the edges leaves alone: rows of ints, blocks, functions. -/
structure KeepE (W W' : World) : Prop where
  size : W.heap.size ≤ W'.heap.size
  same : ∀ (k : Nat) (c : Array Value) (t : TypeId), W.heap[k]? = some (.cells c t (0, 0)) → (t = 3 ∨ t = 49 ∨ t = 25) → W'.heap[k]? = some (.cells c t (0, 0))
theorem KeepE.refl (W : World) : KeepE W W := ⟨Nat.le_refl _, fun _ _ _ h _ => h⟩
theorem KeepE.trans {A B C : World} (h : KeepE A B) (k : KeepE B C) : KeepE A C := ⟨Nat.le_trans h.size k.size, fun i c t hi ht => k.same i c t (h.same i c t hi ht) ht⟩
theorem keepE_b (W : World) (l : Nat) (o o' : Obj) (h : W.heap[l]? = some o) (ho : o.isCells = false) : KeepE W (W.putObj l o') := by
  refine ⟨by simp, fun k c t hk _ => ?_⟩
  have hne : k ≠ l := by rintro rfl; rw [h] at hk; cases hk; cases ho
  exact ((grownBy_putObj' W l o').block k (blk_lt hk) (fun e => hne (Option.some.inj e))).trans hk

/-- The store of a whole block, within a fence. -/
theorem wpListIn_store_row {F : Fence} {n : Nat} {P : Program} {ops : Array Oper} {rest : List Oper} {o : Oper} {a : Act} {w : World} {Q : Exit → Act → World → Prop} (hgd : o.guard = none) (ty : TypeId) (x y : Operand) (ho : o.op = .store ty x y)
    (g : Nat) (cells : Array Value) (hx : a.eval x = .pointer (some ⟨g, 0, none⟩)) (hy : a.eval y = .agg cells) (t : TypeId) (old : Array Value) (hg : w.heap[g]? = some (.cells old t (0, 0)))
    (hi : (P.info? ty).map (·.size) = some cells.size) (hold : old.size = cells.size) (h1 : cells.all (·.oneCell') = true)
    (h : wpListIn F n P ops Q rest (a.put o.dst undef) (w.setRow g cells)) : wpListIn F n P ops Q (o :: rest) a w := by
  refine wpListIn_plain hgd fun K hK => ?_
  unfold Oper.wpIn
  refine ⟨by simp [Oper.about, ho], ?_⟩
  rw [Oper.semAt_plain F _ _ (by rw [ho]; intro c hc; cases hc)]
  have hrun : (execOp a.eval o).run P w = .ok .skip (w.setRow g cells) := by
    unfold execOp
    simp only [ho, hx, hy, Instr.storeAt, Instr.sureAddr, Sem.run_bind, Sem.run_pure, Result.andThen_ok, run_storeVar_row w g t ty old cells hg hi hold h1]
  rw [hrun]
  exact hK _ _ h

set_option maxRecDepth 100000 in
set_option maxHeartbeats 1000000 in
theorem flowEach_in (n : Nat) (P B : Value) (w : World) :
    CallsIn Fence.wide n Tryz.prog 50 #[.agg #[P, B]] w fun e w' => e = .returned (.func (.func 81) #[] #[.pointer (some ⟨w.heap.size, 0, none⟩)]) ∧ w.alloc (.cells #[P, B] 25) = w' := by
  have hmf : ∀ (fn : Fn) (first cap : Array Value) (w : World), (Instr.makeFunc fn first cap).run Tryz.prog w = .ok (.func fn first cap) w := fun _ _ _ _ => rfl
  refine callsIn_of_wp Tryz.func50 rfl trivial ?_ rfl
  simp only [Tryz.ntmps50, List.size_toArray, List.length_cons, List.length_nil, Nat.reduceAdd, Nat.reduceSub, Array.replicate_succ, Array.replicate_zero, List.push_toArray, List.append_toArray, List.nil_append, List.cons_append]
  gi_wp2
  go_ret
  exact ⟨rfl, rfl⟩

theorem own_keepE {W W' : World} {B : Nat} {v : Value} {n : Nat} {xs : List Value} (h : W.ownsRow B 3 1 v n xs) (hk : KeepE W W') : W'.ownsRow B 3 1 v n xs := by
  refine ⟨h.1, ?_⟩
  rcases h.2 with h | ⟨g, cap, cur, e, hb, hg, r⟩
  · exact .inl h
  · exact .inr ⟨g, cap, cur, e, hb, hk.same g cur _ hg (.inl rfl), r⟩
theorem below_grown {W W' : World} (h : Below W.heap.size W W') : W.grownBy W' none := ⟨h.os, h.tape, h.output, h.size, fun k hk _ => h.block k hk⟩

set_option maxRecDepth 100000 in
set_option maxHeartbeats 2000000 in
theorem flowEach1_in (n : Nat) (hn : 1 ≤ n) (l Fb : Nat) (P : Value) (A : Option Addr) (c : Nat) (bs : List Blk) (wE : World) (hr : RF wE A bs) (J Jx : List Ed → World → Prop) (B0 : Nat) (hJ : AbidesFrom B0 J)
    (hY : ∀ pre x W, J pre W → pre.length < 2 * bs.length + 1 → pre ++ [x] <+: edgesOf bs → YieldAt Fence.wide (n - 1) Tryz.prog l #[.agg (Ed.val x)] W fun e W' =>
      (e = .returned (.bool true) ∧ J (pre ++ [x]) W' ∧ Below wE.heap.size W W' ∧ KeepE W W') ∨ (e = .returned (.bool false) ∧ Jx (pre ++ [x]) W'))
    (W : World) (hW : Below wE.heap.size wE W) (hs : W.heap[Fb]? = some (.cells #[P, .slice A bs.length c] 25 (0, 0))) (h0 : J [] W) :
    CallsIn Fence.wide n Tryz.prog 81 #[.func (.yield l) #[] #[], .pointer (some ⟨Fb, 0, none⟩)] W fun e W' => (∃ v, e = .returned v) ∧
      ((∃ ys, ys = edgesOf bs ∧ J ys W') ∨ (∃ pre, pre <+: edgesOf bs ∧ Jx pre W')) := by
  refine callsIn_of_wp Tryz.func81 rfl trivial ?_ rfl
  simp only [Tryz.ntmps81, List.size_toArray, List.length_cons, List.length_nil, Nat.reduceAdd, Nat.reduceSub, Array.replicate_succ, Array.replicate_zero, List.push_toArray, List.append_toArray, List.nil_append, List.cons_append]
  have hc1 : W.cell? ⟨Fb, 1, none⟩ = some (.slice A bs.length c) := (cell_of_row W _ _ _ _ _ hs).trans rfl
  gi_wp2
  gi_loopw [10] (fun i wr => ∃ k : Nat, k ≤ bs.length ∧ i = .int .i64 k ∧ J (edgesTo bs k) wr ∧ Below wE.heap.size wE wr) (fun i _ => bs.length - (intOf i).toNat)
  case atStart => exact ⟨0, Nat.zero_le _, rfl, h0, hW⟩
  case round =>
    obtain ⟨k, hk, rfl, hJk, hWk⟩ := hrel
    by_cases hlt : k < bs.length
    · have hlen := hr.len
      obtain ⟨b, off, rfl, hbl, hok, hcs⟩ := (hr.below hWk).at_ hlt
      have hd : decide ((k : Int) < (bs.length : Int)) = true := decide_eq_true (by omega)
      have e0 : wr.cell? ⟨b, off + k * 5, none⟩ = some (gB bs k).ins := by have := hcs 0 (by decide); rw [Nat.mul_comm] at this; exact this
      have e1 : wr.cell? ⟨b, off + k * 5 + 1, none⟩ = some (.int .i64 (gB bs k).t.k) := by have := hcs 1 (by decide); rw [Nat.mul_comm] at this; exact this
      have e2 : wr.cell? ⟨b, off + k * 5 + 2, none⟩ = some (.int .i64 (gB bs k).t.a) := by have := hcs 2 (by decide); rw [Nat.mul_comm] at this; exact this
      have e3 : wr.cell? ⟨b, off + k * 5 + 3, none⟩ = some (.int .i64 (gB bs k).t.t0) := by have := hcs 3 (by decide); rw [Nat.mul_comm] at this; exact this
      have e4 : wr.cell? ⟨b, off + k * 5 + 4, none⟩ = some (.int .i64 (gB bs k).t.t1) := by have := hcs 4 (by decide); rw [Nat.mul_comm] at this; exact this
      clear hcs
      have hone := hr.one k hlt
      have hz := blk_new wr (.cells #[.slice none 0 0, .int .i64 0, .int .i64 0, .int .i64 0, .int .i64 0] 49)
      have hz2 := blk_setRow hz (cs' := (gB bs k).val)
      have hWz : Below wE.heap.size wE ((wr.alloc (.cells #[.slice none 0 0, .int .i64 0, .int .i64 0, .int .i64 0, .int .i64 0] 49)).setRow wr.heap.size (gB bs k).val) := below_setRow (hWk.alloc hWk.size _) hWk.size _
      have f1 := (cell_of_row _ wr.heap.size 1 _ _ _ hz2).trans (show (gB bs k).val[1]? = some (.int .i64 (gB bs k).t.k) from rfl)
      have f2 := (cell_of_row _ wr.heap.size 2 _ _ _ hz2).trans (show (gB bs k).val[2]? = some (.int .i64 (gB bs k).t.a) from rfl)
      have f3 := (cell_of_row _ wr.heap.size 3 _ _ _ hz2).trans (show (gB bs k).val[3]? = some (.int .i64 (gB bs k).t.t0) from rfl)
      have f4 := (cell_of_row _ wr.heap.size 4 _ _ _ hz2).trans (show (gB bs k).val[4]? = some (.int .i64 (gB bs k).t.t1) from rfl)
      gi_wp2_with (refine wpListIn_store_row rfl _ _ _ rfl wr.heap.size (gB bs k).val rfl rfl _ _ hz (by kernel_rfl) rfl (Blk.val_one hone) ?_)
      refine ⟨trivial, ?_⟩
      refine ((callsIn_wide (n := n - 1)).2 (To_any (gB bs k).t _ hok)).mono ?_
      rintro e w2 ⟨v, rfl, ho, hnl, hb2⟩
      have hJ2 : J (edgesTo bs k) w2 := hJ _ _ _ none hJk (below_grown ((below_setRow ((Below.refl _ wr).alloc (Nat.le_refl _) _) (Nat.le_refl _) _).trans (hb2.mono (by simp)))) (fun r e => by cases e)
      have hW2 := hWz.trans (hb2.mono hWz.size)
      have hi64 : ∀ x ∈ toL (gB bs k).t, I64 x := by
        obtain ⟨h1, h2, h3, h4⟩ := hok
        intro x hx
        unfold toL at hx
        split at hx
        · split at hx
          · simp at hx; subst hx; exact h3
          · split at hx
            · simp at hx; rcases hx with rfl | rfl <;> assumption
            · cases hx
        · cases hx
      have hll := toL_len (gB bs k).t
      have hpre := fun m hm => edges_pre bs (m := m) hlt hm
      have hE : edgesTo bs (k + 1) = edgesTo bs k ++ armE k (toL (gB bs k).t) (toL (gB bs k).t).length := rfl
      have hEl := edgesTo_len bs k
      generalize toL (gB bs k).t = L at *
      clear f1 f2 f3 f4 hz2 hz e0 e1 e2 e3 e4 hWz hb2 hJk hWk
      obtain ⟨Lv, lc, rfl⟩ := own_form ho
      gi_wp2
      gi_loopw [19] (fun i wq => ∃ m : Nat, m ≤ L.length ∧ i = .int .i64 m ∧ J (edgesTo bs k ++ armE k L m) wq ∧ Below wE.heap.size wE wq ∧ wq.ownsRow 0 3 1 (.slice Lv L.length lc) L.length (L.map (Value.int .i64))) (fun i _ => L.length - (intOf i).toNat)
      case atStart => exact ⟨0, Nat.zero_le _, rfl, by simpa [armE] using hJ2, hW2, ⟨ho.1, ho.2.imp id (fun ⟨g, cap, cur, e, hb, r⟩ => ⟨g, cap, cur, e, Nat.zero_le _, r⟩)⟩⟩
      case round =>
        obtain ⟨m, hm, rfl, hJm, hWm, hom⟩ := hrel
        by_cases hml : m < L.length
        · obtain ⟨A', c', e', _, hRI⟩ := own_RI hom hi64 (by omega)
          cases e'
          obtain ⟨bL, oL, rfl, hbL, hcL, hxL⟩ := hRI.at_ hml
          have hd2 : decide ((m : Int) < (L.length : Int)) = true := decide_eq_true (by omega)
          obtain ⟨fn, tmps, assign, body, hy, hR⟩ := hY (edgesTo bs k ++ armE k L m) ⟨k, m, gI L m⟩ _ hJm (by rw [List.length_append, armE_len]; omega) (by rw [List.append_assoc, ← armE_succ]; exact hpre (m + 1) (by omega))
          simp only [Ed.val] at hy
          rw [List.append_assoc, ← armE_succ] at hR
          gi_wp2
          refine hR.mono ?_
          rintro e W3 (⟨rfl, hJ3, hB3, hk3⟩ | ⟨rfl, hJx3⟩)
          · gi_wp2
            go_roundw
            case rel => exact ⟨m + 1, by omega, by go_num, hJ3, hWm.trans hB3, own_keepE hom hk3⟩
            case measure => simp [intOf]; omega
          · gi_wp2
            refine bodyPost_ret (results_none rfl _ _ _) rfl ?_
            exact ⟨⟨_, rfl⟩, .inr ⟨_, hpre (m + 1) (by omega), hJx3⟩⟩
        · obtain rfl : m = L.length := by omega
          have hd2 : decide ((L.length : Int) < (L.length : Int)) = false := by simp
          rw [← hE] at hJm
          gi_wp2
          go_roundw
          case rel => exact ⟨k + 1, by omega, by go_num, hJm, hWm⟩
          case measure => simp [intOf]; omega
    · obtain rfl : k = bs.length := by omega
      gi_wp2
      go_end0
      exact ⟨⟨_, rfl⟩, .inl ⟨_, rfl, hJk⟩⟩

theorem flowEach_stops (n : Nat) (hn : 1 ≤ n) (Fb : Nat) (P : Value) (A : Option Addr) (c : Nat) (bs : List Blk) (wE : World) (hr : RF wE A bs) (w : World) (hwE : Below wE.heap.size wE w)
    (hs : w.heap[Fb]? = some (.cells #[P, .slice A bs.length c] 25 (0, 0))) :
    SeqStopsK Fence.wide n Tryz.prog 81 #[.pointer (some ⟨Fb, 0, none⟩)] (fun x : Ed => #[Value.agg x.val]) (fun W W' => Below wE.heap.size W W' ∧ KeepE W W') (fun ys => ys = edgesOf bs) (fun pre => pre <+: edgesOf bs) (2 * bs.length + 1) w := fun l J Jx W hW hJ _ hY h0 =>
  flowEach1_in n hn l Fb P A c bs wE hr J Jx _ hJ (fun pre x W1 h1 h2 _ => hY pre x W1 h1 h2) W (hwE.trans (hW.mono hwE.size)) (blk_below hW hs (blk_lt hs)) h0

/-- An edge whose numbers are Go's. -/
abbrev EdI := { x : Ed // I64 x.f ∧ I64 x.a ∧ I64 x.t }
def unE (pre : List EdI) : List Ed := pre.map (·.1)
theorem unE_snoc (pre : List EdI) (x : EdI) : unE (pre ++ [x]) = unE pre ++ [x.1] := by simp [unE]
theorem unE_len (pre : List EdI) : (unE pre).length = pre.length := by simp [unE]
theorem unE_inj : ∀ {a b : List EdI}, unE a = unE b → a = b
  | [], [], _ => rfl
  | [], _ :: _, h => by simp [unE] at h
  | _ :: _, [], h => by simp [unE] at h
  | a :: l, b :: m, h => by
    simp only [unE, List.map_cons, List.cons.injEq] at h
    rw [Subtype.ext h.1, unE_inj h.2]

theorem flowEach_stopsI (n : Nat) (hn : 1 ≤ n) (Fb : Nat) (P : Value) (A : Option Addr) (c : Nat) (bs : List Blk) (wE : World) (hr : RF wE A bs) (hE : ∀ e ∈ edgesOf bs, I64 e.f ∧ I64 e.a ∧ I64 e.t) (w : World) (hwE : Below wE.heap.size wE w)
    (hs : w.heap[Fb]? = some (.cells #[P, .slice A bs.length c] 25 (0, 0))) :
    SeqStopsK Fence.wide n Tryz.prog 81 #[.pointer (some ⟨Fb, 0, none⟩)] (fun x : EdI => #[Value.agg x.1.val]) (fun W W' => Below wE.heap.size W W' ∧ KeepE W W') (fun ys => unE ys = edgesOf bs) (fun pre => unE pre <+: edgesOf bs) (2 * bs.length + 1) w := fun l J Jx W hW hJ _ hY h0 => by
  refine (flowEach1_in n hn l Fb P A c bs wE hr (fun pre W => ∃ q, unE q = pre ∧ J q W) (fun pre W => ∃ q, unE q = pre ∧ Jx q W) _ (fun s A B row ⟨q, e, hq⟩ hg hr => ⟨q, e, hJ q A B row hq hg hr⟩) (fun pre x W1 ⟨q, e, hq⟩ h2 hp => ?_) W (hwE.trans (hW.mono hwE.size)) (blk_below hW hs (blk_lt hs)) ⟨[], rfl, h0⟩).mono ?_
  · have hx : x ∈ edgesOf bs := hp.subset (by simp)
    have := hY q ⟨x, hE x hx⟩ W1 hq (by rw [← unE_len, e]; exact h2)
    refine YieldAt.mono this ?_
    rintro e' W' (⟨h1, h3, h4⟩ | ⟨h1, h3⟩)
    · exact .inl ⟨h1, ⟨_, by rw [unE_snoc, e], h3⟩, h4.1, h4.2⟩
    · exact .inr ⟨h1, ⟨_, by rw [unE_snoc, e], h3⟩⟩
  · rintro e W' ⟨h1, ⟨ys, h2, q, h3, h4⟩ | ⟨pre, h2, q, h3, h4⟩⟩
    · exact ⟨h1, .inl ⟨q, h3.trans h2, h4⟩⟩
    · exact ⟨h1, .inr ⟨q, by show unE q <+: _; rw [h3]; exact h2, h4⟩⟩

end Go.Proofs.YtjichaeegheacaaGreatDoor
