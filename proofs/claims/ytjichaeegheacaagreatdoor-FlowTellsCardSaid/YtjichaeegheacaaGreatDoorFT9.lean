/-
  Data OwnQ Lent Flat FlatS
-/
import Derived.Test.YtjichaeegheacaaGreatDoorFT8
import Derived.Test.YtjichaeegheacaaGreatDoorFT1
import Derived.Test.YtjichaeegheacaaGreatDoorFT2
import Derived.ArgAppend
import Derived.Deep.Upon

/- Data -/
/-
  A function as data: instructions, blocks, parameters, and where all of it lies; rows of structs of one's own.
-/
namespace Go.Proofs.YtjichaeegheacaaGreatDoor
open Go Go.RowKit

/- Rows of equal pieces. -/
theorem flat_len {α : Type} {f : α → List Value} {s : Nat} (hf : ∀ x, (f x).length = s) : ∀ l : List α, (l.flatMap f).length = l.length * s
  | [] => by simp
  | x :: l => by rw [List.flatMap_cons, List.length_append, hf, flat_len hf l, List.length_cons, Nat.succ_mul, Nat.add_comm]
theorem flat_at {α : Type} {f : α → List Value} {s : Nat} (hf : ∀ x, (f x).length = s) : ∀ (l : List α) (i j : Nat) (hi : i < l.length), j < s → (l.flatMap f)[i * s + j]? = (f (l[i]'hi))[j]?
  | x :: l, 0, j, _, hj => by rw [List.flatMap_cons, Nat.zero_mul, Nat.zero_add, List.getElem?_append_left (by rw [hf]; exact hj)]; rfl
  | x :: l, i + 1, j, hi, hj => by
    rw [List.flatMap_cons, List.getElem?_append_right (by rw [hf, Nat.succ_mul]; omega), hf, show (i + 1) * s + j - s = i * s + j by rw [Nat.succ_mul]; omega]
    exact flat_at hf l i j (by simpa using hi) hj

/-- An instruction: its numbers, its arguments. -/
structure InD where
  op : Int
  dst : Int
  a : Int
  b : Int
  imm : Int
  callee : Int
  args : List Int
  many : Int
/-- The same, and where its arguments lie. -/
structure InsV where
  d : InD
  A : Option Addr
  c : Nat
instance : Inhabited InsV := ⟨⟨⟨0, 0, 0, 0, 0, 0, [], 0⟩, none, 0⟩⟩
def InsV.av (x : InsV) : Value := .slice x.A x.d.args.length x.c
def InsV.val (x : InsV) : Array Value := #[.int .i64 x.d.op, .int .i64 x.d.dst, .int .i64 x.d.a, .int .i64 x.d.b, .int .i64 x.d.imm, .int .i64 x.d.callee, x.av, .int .i64 x.d.many]
def InsV.cell (x : InsV) : Nat → Value
  | 0 => .int .i64 x.d.op
  | 1 => .int .i64 x.d.dst
  | 2 => .int .i64 x.d.a
  | 3 => .int .i64 x.d.b
  | 4 => .int .i64 x.d.imm
  | 5 => .int .i64 x.d.callee
  | 6 => x.av
  | _ => .int .i64 x.d.many
theorem InsV.val_at (x : InsV) {j : Nat} (hj : j < 8) : x.val.toList[j]? = some (x.cell j) := by
  match j, hj with
  | 0, _ => rfl
  | 1, _ => rfl
  | 2, _ => rfl
  | 3, _ => rfl
  | 4, _ => rfl
  | 5, _ => rfl
  | 6, _ => rfl
  | 7, _ => rfl
theorem slice_one (A : Option Addr) (n c : Nat) : (Value.slice A n c).oneCell' = true := rfl
theorem InsV.val_one (x : InsV) : ∀ u ∈ x.val.toList, u.oneCell' = true := by
  intro u hu
  simp [InsV.val, InsV.av] at hu
  rcases hu with rfl | rfl | rfl | rfl | rfl | rfl | rfl | rfl <;> rfl
def insCells (xs : List InsV) : List Value := xs.flatMap fun x => x.val.toList
theorem insCells_len (xs : List InsV) : (insCells xs).length = xs.length * 8 := flat_len (f := fun x : InsV => x.val.toList) (s := 8) (fun _ => rfl) xs
def gV (xs : List InsV) (i : Nat) : InsV := xs[i]?.getD default
theorem gV_eq {xs : List InsV} {i : Nat} (h : i < xs.length) : gV xs i = xs[i] := by simp [gV, h]
theorem insCells_at {xs : List InsV} {i j : Nat} (hi : i < xs.length) (hj : j < 8) : (insCells xs)[i * 8 + j]? = some ((gV xs i).cell j) := by
  rw [gV_eq hi, ← InsV.val_at _ hj]
  exact flat_at (f := fun x : InsV => x.val.toList) (s := 8) (fun _ => rfl) xs i j hi hj

/-- A slice of instructions, as it reads. -/
structure RRow (w : World) (A : Option Addr) (xs : List InsV) : Prop where
  len : xs.length ≤ 140737488355328
  rd : ∀ i, i < xs.length → ∃ b off, A = some ⟨b, off, none⟩ ∧ b < w.heap.size ∧ ∀ W, Below w.heap.size w W → ∀ j, j < 8 → W.cell? ⟨b, off + i * 8 + j, none⟩ = some ((gV xs i).cell j)
  args : ∀ i, i < xs.length → RI w (gV xs i).A (gV xs i).d.args
theorem RRow.below {w w' : World} {A : Option Addr} {xs : List InsV} (h : RRow w A xs) (hb : Below w.heap.size w w') : RRow w' A xs :=
  ⟨h.len, fun i hi => by
    obtain ⟨b, off, e, hlt, hc⟩ := h.rd i hi
    exact ⟨b, off, e, Nat.lt_of_lt_of_le hlt hb.size, fun W hW => hc W (hb.trans (hW.mono hb.size))⟩, fun i hi => (h.args i hi).below hb⟩
theorem RRow.nil (w : World) (A : Option Addr) : RRow w A [] := ⟨Nat.zero_le _, fun _ hi => absurd hi (Nat.not_lt_zero _), fun _ hi => absurd hi (Nat.not_lt_zero _)⟩

/-- A block: its instructions, where they lie; its end. -/
structure BlkV where
  ins : List InsV
  A : Option Addr
  c : Nat
  t : Tm
instance : Inhabited BlkV := ⟨⟨[], none, 0, ⟨0, 0, 0, 0⟩⟩⟩
def BlkV.iv (b : BlkV) : Value := .slice b.A b.ins.length b.c
def BlkV.blk (b : BlkV) : Blk := ⟨b.iv, b.t⟩
def BlkV.val (b : BlkV) : Array Value := #[b.iv, .int .i64 b.t.k, .int .i64 b.t.a, .int .i64 b.t.t0, .int .i64 b.t.t1]
theorem BlkV.val_at (b : BlkV) {j : Nat} (hj : j < 5) : b.val.toList[j]? = some (b.blk.cell j) := by
  match j, hj with
  | 0, _ => rfl
  | 1, _ => rfl
  | 2, _ => rfl
  | 3, _ => rfl
  | 4, _ => rfl
theorem BlkV.val_one (x : BlkV) : ∀ u ∈ x.val.toList, u.oneCell' = true := by
  intro u hu
  simp [BlkV.val, BlkV.iv] at hu
  rcases hu with rfl | rfl | rfl | rfl | rfl <;> rfl
def blkCells (bs : List BlkV) : List Value := bs.flatMap fun b => b.val.toList
theorem blkCells_len (bs : List BlkV) : (blkCells bs).length = bs.length * 5 := flat_len (f := fun b : BlkV => b.val.toList) (s := 5) (fun _ => rfl) bs
def gBV (bs : List BlkV) (i : Nat) : BlkV := bs[i]?.getD default
theorem gBV_eq {bs : List BlkV} {i : Nat} (h : i < bs.length) : gBV bs i = bs[i] := by simp [gBV, h]
theorem blkCells_at {bs : List BlkV} {i j : Nat} (hi : i < bs.length) (hj : j < 5) : (blkCells bs)[i * 5 + j]? = some ((gBV bs i).blk.cell j) := by
  rw [gBV_eq hi, ← BlkV.val_at _ hj]
  exact flat_at (f := fun b : BlkV => b.val.toList) (s := 5) (fun _ => rfl) bs i j hi hj
/-- The blocks, as the walks over package flow name them. -/
def blks (bs : List BlkV) : List Blk := bs.map BlkV.blk
theorem blks_len (bs : List BlkV) : (blks bs).length = bs.length := by simp [blks]
theorem gB_blks {bs : List BlkV} {i : Nat} (h : i < bs.length) : gB (blks bs) i = (gBV bs i).blk := by
  rw [gB_eq (by rw [blks_len]; exact h), gBV_eq h]; simp [blks]

/-- Slices of blocks. -/
structure RBlk (w : World) (A : Option Addr) (bs : List BlkV) : Prop where
  rf : RF w A (blks bs)
  rows : ∀ i, i < bs.length → RRow w (gBV bs i).A (gBV bs i).ins
theorem RBlk.below {w w' : World} {A : Option Addr} {bs : List BlkV} (h : RBlk w A bs) (hb : Below w.heap.size w w') : RBlk w' A bs := ⟨h.rf.below hb, fun i hi => (h.rows i hi).below hb⟩

/-- A function: parameters, blocks, where they lie. -/
structure FnV where
  par : List Int
  Ap : Option Addr
  cp : Nat
  bs : List BlkV
  A : Option Addr
  c : Nat
def FnV.pv (F : FnV) : Value := .slice F.Ap F.par.length F.cp
def FnV.val (F : FnV) : Value := .agg #[F.pv, .slice F.A F.bs.length F.c]
structure RFn (w : World) (F : FnV) : Prop where
  par : RI w F.Ap F.par
  blk : RBlk w F.A F.bs
theorem RFn.below {w w' : World} {F : FnV} (h : RFn w F) (hb : Below w.heap.size w w') : RFn w' F := ⟨h.par.below hb, h.blk.below hb⟩

/-- What the data is, wherever it lies. -/
def BlkV.dat (b : BlkV) : List InD × Tm := (b.ins.map (·.d), b.t)
def FnV.dat (F : FnV) : List Int × List (List InD × Tm) := (F.par, F.bs.map BlkV.dat)

/-- None of its rows is longer than m. -/
structure SmallR (m : Nat) (xs : List InsV) : Prop where
  len : xs.length ≤ m
  args : ∀ i, i < xs.length → (gV xs i).d.args.length ≤ m
structure SmallF (m : Nat) (F : FnV) : Prop where
  par : F.par.length ≤ m
  bs : F.bs.length ≤ m
  row : ∀ i, i < F.bs.length → SmallR m (gBV F.bs i).ins

/- How great a function is. -/
set_option maxRecDepth 100000 in
set_option maxHeartbeats 2000000 in
theorem BlocksOf_sz (A : Option Addr) (c : Nat) (bs : List BlkV) (m : Nat) (w : World) (hr : RBlk w A bs) (hm : m ≤ 500) :
    Calls Tryz.prog 47 #[.slice A bs.length c, .int .i64 m] w fun e w' => ∃ n : Int, e = .returned (.int .i64 n) ∧ 0 ≤ n ∧ n ≤ 1000000000000000 ∧ (n ≤ m → (bs.length : Int) ≤ n ∧ ∀ i, i < bs.length → SmallR n.toNat (gBV bs i).ins) ∧ w' = w := by
  have hl := hr.rf.len
  rw [blks_len] at hl
  go_enter Tryz.func47, Tryz.ntmps47
  go_wp2
  go_loopw [5, 6] (fun n i W => ∃ (k : Nat) (s : Int), k ≤ bs.length ∧ i = .int .i64 k ∧ n = .int .i64 s ∧ 0 ≤ s ∧ s ≤ 1000000000000000 ∧ (s ≤ m → (k : Int) ≤ s ∧ ∀ i, i < k → SmallR s.toNat (gBV bs i).ins) ∧ W = w) (fun _ i _ => bs.length - (intOf i).toNat)
  case atStart => exact ⟨0, 0, Nat.zero_le _, rfl, rfl, by omega, by omega, fun _ => ⟨by omega, fun i hi => by omega⟩, rfl⟩
  case round =>
    obtain ⟨k, s, hk, rfl, rfl, h0, h1, hsz, rfl⟩ := hrel
    by_cases hlt : k < bs.length
    · have hd : decide ((k : Int) < (bs.length : Int)) = true := decide_eq_true (by omega)
      by_cases hs : s ≤ m
      · have hd1 : decide (s ≤ (m : Int)) = true := decide_eq_true hs
        obtain ⟨b, off, hAe, hbl, hok, hcs⟩ := hr.rf.at_ (k := k) (by rw [blks_len]; exact hlt)
        have e0 := hcs 0 (by decide)
        rw [gB_blks hlt, Nat.mul_comm, Nat.add_zero] at e0
        have hrow := hr.rows k hlt
        have hni := hrow.len
        obtain ⟨hkb, hsm⟩ := hsz hs
        generalize hX : (gBV bs k) = X at *
        have e0' : wr.cell? ⟨b, off + k * 5, none⟩ = some (.slice X.A X.ins.length X.c) := e0
        clear e0 hcs hsz hok
        subst hAe
        go_wp2
        go_loopw [5, 7] (fun n j W => ∃ (q : Nat) (t : Int), q ≤ X.ins.length ∧ j = .int .i64 q ∧ n = .int .i64 t ∧ s + 1 + X.ins.length ≤ t ∧ t ≤ 1000000000000000 ∧ (∀ i, i < q → ((gV X.ins i).d.args.length : Int) ≤ t) ∧ W = wr) (fun _ j _ => X.ins.length - (intOf j).toNat)
        case atStart => exact ⟨0, _, Nat.zero_le _, rfl, rfl, by omega, by omega, fun i hi => by omega, rfl⟩
        case round =>
          obtain ⟨q, t, hq, rfl, rfl, t0, t1, hta, rfl⟩ := hrel
          have hdone : q = X.ins.length → t ≤ m → ((k + 1 : Nat) : Int) ≤ t ∧ ∀ i, i < k + 1 → SmallR t.toNat (gBV bs i).ins := fun hqe _ => by
            refine ⟨by omega, fun i hi => ?_⟩
            by_cases e : i = k
            · subst e
              rw [hX]
              exact ⟨by omega, fun i hi => by have := hta i (by omega); omega⟩
            · have := hsm i (by omega)
              exact ⟨by have := this.len; omega, fun i hi => by have := this.args i hi; omega⟩
          by_cases hql : q < X.ins.length
          · have hd2 : decide ((q : Int) < (X.ins.length : Int)) = true := decide_eq_true (by omega)
            by_cases ht : t ≤ m
            · have hd3 : decide (t ≤ (m : Int)) = true := decide_eq_true ht
              obtain ⟨bi, oi, hAi, hbi, hci⟩ := hrow.rd q hql
              have hca := hci wr (Below.refl _ _) 6 (by decide)
              have hca' : wr.cell? ⟨bi, oi + q * 8 + 6, none⟩ = some (.slice (gV X.ins q).A (gV X.ins q).d.args.length (gV X.ins q).c) := hca
              have hna := (hrow.args q hql).len
              rw [hAi] at e0'
              have hstep : ∀ i, i < q + 1 → ((gV X.ins i).d.args.length : Int) ≤ t + ((gV X.ins q).d.args.length : Int) := fun i hi => by
                by_cases e : i = q
                · subst e; omega
                · have := hta i (by omega); omega
              clear hca hci hdone hta hrow hsm
              go_wp2
              go_roundw
              case rel => exact ⟨q + 1, _, by omega, by go_num, rfl, by omega, by omega, hstep, by trivial⟩
              case measure => simp [intOf]; omega
            · have hd3 : decide (t ≤ (m : Int)) = false := decide_eq_false ht
              have hno : t ≤ m → ((k + 1 : Nat) : Int) ≤ t ∧ ∀ i, i < k + 1 → SmallR t.toNat (gBV bs i).ins := fun e => absurd e ht
              have hno' := Lib.hid hno
              clear hno hdone
              go_wp2
              go_roundw
              case rel => exact ⟨k + 1, _, by omega, by go_num, rfl, by omega, by omega, hno'.out, by trivial⟩
              case measure => simp [intOf]; omega
          · obtain rfl : q = X.ins.length := by omega
            have hd2 : decide ((X.ins.length : Int) < (X.ins.length : Int)) = false := by simp
            have hno' := Lib.hid (hdone rfl)
            clear hdone
            go_wp2
            go_roundw
            case rel => exact ⟨k + 1, _, by omega, by go_num, rfl, by omega, by omega, hno'.out, by trivial⟩
            case measure => simp [intOf]; omega
      · have hd1 : decide (s ≤ (m : Int)) = false := decide_eq_false hs
        clear hsz
        go_wp2
        go_ret
        exact ⟨s, rfl, h0, h1, fun e => by omega, rfl⟩
    · obtain rfl : k = bs.length := by omega
      have hd : decide ((bs.length : Int) < (bs.length : Int)) = false := by simp
      have hsz' := Lib.hid hsz
      clear hsz
      go_wp2
      go_ret
      exact ⟨s, rfl, h0, h1, hsz'.out, rfl⟩

set_option maxRecDepth 100000 in
set_option maxHeartbeats 1000000 in
theorem FuncOf_sz (F : FnV) (m : Nat) (w : World) (hf : RFn w F) (hm : m ≤ 500) :
    Calls Tryz.prog 7 #[F.val, .int .i64 m] w fun e w' => ∃ n : Int, e = .returned (.int .i64 n) ∧ 0 ≤ n ∧ n ≤ 2000000000000000 ∧ (n ≤ m → SmallF m F) ∧ Below w.heap.size w w' := by
  obtain ⟨par, Ap, cp, bs, A, c⟩ := F
  obtain ⟨hp, hbk⟩ := hf
  simp only [FnV.val, FnV.pv] at *
  have hnp := hp.len
  have hb0 := (Below.refl w.heap.size w).alloc (Nat.le_refl _) (.cells #[.slice Ap par.length cp, .slice A bs.length c] 25)
  have hs := blk_new w (.cells #[.slice Ap par.length cp, .slice A bs.length c] 25)
  have c0 : ∀ W, Below (w.alloc (.cells #[.slice Ap par.length cp, .slice A bs.length c] 25)).heap.size (w.alloc (.cells #[.slice Ap par.length cp, .slice A bs.length c] 25)) W → W.cell? ⟨w.heap.size, 0, none⟩ = some (.slice Ap par.length cp) := fun W hW => (cell_of_row _ _ 0 _ _ _ (blk_below hW hs (blk_lt hs))).trans rfl
  have c1 : ∀ W, Below (w.alloc (.cells #[.slice Ap par.length cp, .slice A bs.length c] 25)).heap.size (w.alloc (.cells #[.slice Ap par.length cp, .slice A bs.length c] 25)) W → W.cell? ⟨w.heap.size, 1, none⟩ = some (.slice A bs.length c) := fun W hW => (cell_of_row _ _ 1 _ _ _ (blk_below hW hs (blk_lt hs))).trans rfl
  have hl := hbk.rf.len
  rw [blks_len] at hl
  go_enter Tryz.func7, Tryz.ntmps7
  go_wp2
  generalize hw1 : (w.alloc (.cells #[.slice Ap par.length cp, .slice A bs.length c] 25)) = w1 at *
  refine wp_region_tree (S := fun W => ∃ p : Regrown, W = Sort.grow (redrawn w1 p.d) p.os) (.look [0, 1, 2, 3, 4, 5] (.one 6 (.look [7, 8] .done))) (by kernel_rfl) (by kernel_rfl) (regrown_of_below ((Below.refl w1.heap.size w1).drew)) (fun d _ _ _ _ h => by cases d <;> exact h) ?_
  refine tree_look ?_
  dsimp only [pickL, nthO]
  repeat (first
    | go_big_quiet_skip
    | (go_big_quiet_want; first
        | (go_big_quiet_op; go_big_quiet_on)
        | ((first
            | refine q_go ⟨_, ⟨0, #[]⟩, rfl⟩ (fun K' hk => q_loadS _ _ rfl ⟨w.heap.size, 0, none⟩ rfl _ Tryz.underlying22 _ (fun W hW => c0 W (below_of_grow hW)) hk) ?_
            | refine q_go ⟨_, ⟨0, #[]⟩, rfl⟩ (fun K' hk => q_loadS _ _ rfl ⟨w.heap.size, 1, none⟩ rfl _ Tryz.underlying23 _ (fun W hW => c1 W (below_of_grow hW)) hk) ?_); go_big_quiet_op; go_big_quiet_on)))
  refine wpQuiet_nil ?_
  refine tree_one rfl ?_
  go_wp2_with fail
  have hdr : Below w1.heap.size w1 w1.drew := (Below.refl _ _).drew
  refine (BlocksOf_sz A c bs m _ (hbk.below (hb0.trans (hdr.mono hb0.size))) hm).mono ?_
  rintro e W2 ⟨n, rfl, n0, n1, hsz, rfl⟩
  have hfin : (par.length : Int) + n ≤ m → SmallF m ⟨par, Ap, cp, bs, A, c⟩ := fun h => by
    obtain ⟨h1, h2⟩ := hsz (by omega)
    exact ⟨by simp only; omega, by simp only; omega, fun i hi => by
      have := h2 i hi
      exact ⟨by have := this.len; simp only; omega, fun j hj => by have := this.args j hj; simp only; omega⟩⟩
  have hfin' := Lib.hid hfin
  clear hfin hsz
  go_wp2
  refine ⟨regrown_of_below hdr, ?_⟩
  refine tree_look ?_
  dsimp only [pickL, nthO]
  repeat (first
    | go_big_quiet_skip
    | (go_big_quiet_want; go_big_quiet_op; go_big_quiet_on))
  refine wpQuiet_nil ?_
  refine tree_done ?_
  go_wp2
  go_ret
  exact ⟨_, rfl, by omega, by omega, hfin'.out, hb0.trans (hdr.mono hb0.size)⟩

end Go.Proofs.YtjichaeegheacaaGreatDoor

/- OwnQ -/
/-
  The worlds in which one block of one's own may have turned, and blocks may have been laid; an append that says whose block it wrote; rows of rows, each of its own.
-/
namespace Go.Proofs.YtjichaeegheacaaGreatDoor
open Go Go.RowKit

structure Regrown3 where
  d : Nat
  os : Array Obj
  o : Obj
instance : Inhabited Regrown3 := ⟨⟨0, #[], .cells #[] 0⟩⟩
theorem regrown3_of {w W : World} {g : Nat} (hgr : w.grownBy W (some g)) : ∃ p : Regrown3, W = Sort.grow (redrawn (w.putObj g p.o) p.d) p.os := by
  have size : ∀ o, (w.putObj g o).heap.size = w.heap.size := fun o => by simp [World.putObj]
  by_cases hlt : g < w.heap.size
  · have hW : g < W.heap.size := Nat.lt_of_lt_of_le hlt hgr.size
    have hb : Below (w.putObj g W.heap[g]).heap.size (w.putObj g W.heap[g]) W := by
      refine ⟨hgr.os, hgr.tape, hgr.output, by rw [size]; exact hgr.size, fun k hk => ?_⟩
      rw [size] at hk
      by_cases e : k = g
      · subst e; rw [World.putObj_heap_same hlt]; exact Array.getElem?_eq_getElem hW
      · rw [World.putObj_heap_other e]
        exact hgr.block k hk (fun q => e (Option.some.inj q))
    obtain ⟨p, hp⟩ := regrown_of_below hb
    exact ⟨⟨p.d, p.os, W.heap[g]⟩, hp⟩
  · have hb : Below (w.putObj g (.cells #[] 0)).heap.size (w.putObj g (.cells #[] 0)) W := by
      refine ⟨hgr.os, hgr.tape, hgr.output, by rw [size]; exact hgr.size, fun k hk => ?_⟩
      rw [size] at hk
      rw [World.putObj_heap_other (by omega)]
      exact hgr.block k hk (fun q => by have := Option.some.inj q; omega)
    obtain ⟨p, hp⟩ := regrown_of_below hb
    exact ⟨⟨p.d, p.os, .cells #[] 0⟩, hp⟩
theorem regrown3_blk {w W : World} {g : Nat} (h : ∃ p : Regrown3, W = Sort.grow (redrawn (w.putObj g p.o) p.d) p.os) {k : Nat} (hk : k < w.heap.size) (hne : k ≠ g) : W.heap[k]? = w.heap[k]? := by
  obtain ⟨p, rfl⟩ := h
  rw [(below_regrown (w.putObj g p.o) p.d p.os).block k (by simpa [World.putObj] using hk)]
  exact World.putObj_heap_other hne
theorem regrown3_cell {w W : World} {g : Nat} (h : ∃ p : Regrown3, W = Sort.grow (redrawn (w.putObj g p.o) p.d) p.os) {k i : Nat} {v : Value} (hk : k < w.heap.size) (hne : k ≠ g) (hc : w.cell? ⟨k, i, none⟩ = some v) : W.cell? ⟨k, i, none⟩ = some v := by
  rw [← hc]
  unfold World.cell?
  rw [regrown3_blk h hk hne]

/-- The block of a row, or one that is not there. -/
def ownB (W : World) (v : Value) : Nat := match v.ownBlock with | some g => g | none => W.heap.size
theorem own_blk {W : World} {B : Nat} {v : Value} {n : Nat} {xs : List Value} (h : W.ownsRow B 3 1 v n xs) : (v.ownBlock = none ∨ ∃ g c, v.ownBlock = some g ∧ B ≤ g ∧ W.heap[g]? = some (.cells c 3 (0, 0))) := by
  rcases h.2 with ⟨rfl, _⟩ | ⟨g, cap, cur, rfl, hb, hg, _⟩
  · exact .inl rfl
  · exact .inr ⟨g, cur, rfl, hb, hg⟩
theorem own_far {W W' : World} {B : Nat} {v : Value} {n : Nat} {xs : List Value} (h : W.ownsRow B 3 1 v n xs) (hk : ∀ g o, v.ownBlock = some g → W.heap[g]? = some o → W'.heap[g]? = some o) : W'.ownsRow B 3 1 v n xs := by
  refine ⟨h.1, ?_⟩
  rcases h.2 with q | ⟨g, cap, cur, rfl, hb, hg, q⟩
  · exact .inl q
  · exact .inr ⟨g, cap, cur, rfl, hb, hk g _ rfl hg, q⟩

theorem app_one {w : World} {B : Nat} {ty : TypeId} {v : Value} {xs : List Int} {g c : Nat} {y : Int} (hown : w.ownsRow B 3 1 v xs.length (xs.map (Value.int .i64))) (hr : w.heap[g]? = some (.cells #[.int .i64 y] 3 (0, 0)))
    (hB : B ≤ w.heap.size) (hl : xs.length ≤ 100000) :
    ∃ v' w', (Builtin.append_ #[22, 22] ty #[v, .slice (some ⟨g, 0, none⟩) 1 c]).run Tryz.prog w = .ok v' w' ∧ w'.ownsRow B 3 1 v' (xs ++ [y]).length ((xs ++ [y]).map (Value.int .i64)) ∧ w.grownBy w' v.ownBlock ∧
      (v'.ownBlock = v.ownBlock ∨ v'.ownBlock = some w.heap.size) := by
  obtain ⟨i0, hi, hz0, hz1, hz2⟩ := info_parts infoInt
  obtain ⟨v', w', h1, h2, h3, h4, h5⟩ := run_append_own_at (P := Tryz.prog) w B 22 ty 3 i0 (.int .i64 0) 1 8 Tryz.underlying22 hi hz0 hz1 hz2 rfl (by decide) v xs.length _ hown ⟨g, 0, none⟩ 1 c [.int .i64 y] (by simp)
    (fun j u hu => by
      match j, hu with
      | 0, hu => cases hu; exact (cell_of_row w g (0 + 0) _ _ _ hr).trans rfl) (fun u hu => by simp at hu; subst hu; rfl) (by unfold maxLen; omega) (by omega) hB
  exact ⟨v', w', h1, by rw [List.length_append, List.map_append]; exact h2, h3, h5⟩

theorem wpList_app1 {ops : Array Oper} {rest : List Oper} {o : Oper} {a : Act} {w : World} {Q : Exit → Act → World → Prop} (hgd : o.guard = none) (s x : Operand)
    (ho : o.op = .call { callee := .builtin .append, args := #[s, x], argTypes := #[22, 22] }) (B : Nat) (v : Value) (hs : a.eval s = v) (xs : List Int) (hown : w.ownsRow B 3 1 v xs.length (xs.map (Value.int .i64)))
    (g c : Nat) (y : Int) (hx : a.eval x = .slice (some ⟨g, 0, none⟩) 1 c) (hr : w.heap[g]? = some (.cells #[.int .i64 y] 3 (0, 0))) (hB : B ≤ w.heap.size) (hl : xs.length ≤ 100000)
    (h : ∀ v' w', w'.ownsRow B 3 1 v' (xs ++ [y]).length ((xs ++ [y]).map (Value.int .i64)) → w.grownBy w' v.ownBlock → (v'.ownBlock = v.ownBlock ∨ v'.ownBlock = some w.heap.size) → wpList Tryz.prog ops Q rest (a.put o.dst v') w') : wpList Tryz.prog ops Q (o :: rest) a w :=
  wpList_plain hgd fun K hK => by
    obtain ⟨v', w', hrun, h2, h3, h4⟩ := app_one (ty := o.type) (c := c) hown hr hB hl
    unfold Oper.wp execOp
    simp only [ho, resolve, invoke, builtin, Sem.run_bind, Sem.run_pure, Result.andThen_ok, List.map_toArray, List.map_cons, List.map_nil, hs, hx, hrun]
    exact hK _ _ (h v' w' h2 h3 h4)

end Go.Proofs.YtjichaeegheacaaGreatDoor

/- Lent -/
/-
  intarsiakit: what is lent: copies with marks behind their ends.
-/
namespace Go.Proofs.YtjichaeegheacaaGreatDoor
open Go Go.RowKit

theorem own_below {w w' : World} {B n : Nat} {e : TypeId} {s : Nat} {v : Value} {xs : List Value} (h : w.ownsRow B e s v n xs) (hb : Below w.heap.size w w') : w'.ownsRow B e s v n xs := by
  refine ⟨h.1, ?_⟩
  rcases h.2 with q | ⟨g, cap, cur, e1, e2, e3, e4⟩
  · exact .inl q
  · exact .inr ⟨g, cap, cur, e1, e2, blk_below hb e3 (blk_lt e3), e4⟩
theorem own_down {w : World} {B B' n : Nat} {e : TypeId} {s : Nat} {v : Value} {xs : List Value} (h : w.ownsRow B e s v n xs) (hB : B' ≤ B) : w.ownsRow B' e s v n xs := by
  refine ⟨h.1, ?_⟩
  rcases h.2 with q | ⟨g, cap, cur, e1, e2, e3⟩
  · exact .inl q
  · exact .inr ⟨g, cap, cur, e1, Nat.le_trans hB e2, e3⟩
/-- A row stays where another one, of another kind, is appended to. -/
theorem own_other {w w' : World} {B B2 n n2 : Nat} {e e2 : TypeId} {s s2 : Nat} {v v2 : Value} {xs xs2 : List Value} (h : w.ownsRow B e s v n xs) (h2 : w.ownsRow B2 e2 s2 v2 n2 xs2) (hne : e ≠ e2) (hg : w.grownBy w' v2.ownBlock) : w'.ownsRow B e s v n xs := by
  refine h.kept hg ?_
  rcases h.2 with ⟨rfl, _⟩ | ⟨g, cap, cur, rfl, _, hb, _⟩
  · exact .inl rfl
  · rcases h2.2 with ⟨rfl, _⟩ | ⟨g2, cap2, cur2, rfl, _, hb2, _⟩
    · exact .inr (by simp [Value.ownBlock])
    · refine .inr fun q => ?_
      simp [Value.ownBlock] at q
      subst q
      rw [hb] at hb2
      cases hb2
      exact hne rfl
theorem own_some {w : World} {B n : Nat} {e : TypeId} {s : Nat} {v : Value} {xs : List Value} (h : w.ownsRow B e s v n xs) (hn : 0 < n) : ∃ g cap cur, v = .slice (some ⟨g, 0, none⟩) n cap ∧ B ≤ g ∧ w.heap[g]? = some (.cells cur e (0, 0)) ∧ n ≤ cap ∧ cap ≤ maxLen ∧ cur.size = cap * s ∧ cur.toList.take (n * s) = xs := by
  rcases h.2 with ⟨_, q⟩ | q
  · omega
  · exact q
theorem grown_up {B : Nat} {w0 w w' : World} {v : Value} {e : TypeId} {s n : Nat} {xs : List Value} (h : w.ownsRow B e s v n xs) (hb : Below B w0 w) (hg : w.grownBy w' v.ownBlock) (hB : B ≤ w.heap.size) : Below B w0 w' := hb.grown hg hB fun k hk => (h.lt k hk).1

/- Marks. -/
def markN (k i : Int) : Int := 1000003 * (k + 7) + i
theorem mark_any (k i : Int) (w : World) (k0 : 0 ≤ k) (k1 : k ≤ 100000) (i0 : 0 ≤ i) (i1 : i ≤ 100000000) :
    Calls Tryz.prog 49 #[.int .i64 k, .int .i64 i] w fun e w' => e = .returned (.int .i64 (markN k i)) ∧ w' = w := by
  go_enter Tryz.func49, Tryz.ntmps49
  go_wp2
  go_ret
  exact ⟨rfl, rfl⟩
def marks (m : Nat) : List Int := (List.range m).map fun i : Nat => markN 1 i
theorem marks_succ (m : Nat) : marks (m + 1) = marks m ++ [markN 1 m] := by simp [marks, List.range_succ]
theorem marks_len (m : Nat) : (marks m).length = m := by simp [marks]
theorem marks_i64 {m : Nat} (h : m ≤ 1000) : ∀ x ∈ marks m, I64 x := by
  intro x hx
  obtain ⟨i, hi, rfl⟩ := List.mem_map.1 hx
  have := List.mem_range.1 hi
  unfold markN
  exact ⟨by omega, by omega⟩
def markV (i : Nat) : InsV := ⟨⟨0, 0, 0, 0, markN 1 i, 0, [], 0⟩, none, 0⟩
def marksV (m : Nat) : List InsV := (List.range m).map markV
theorem marksV_succ (m : Nat) : marksV (m + 1) = marksV m ++ [markV m] := by simp [marksV, List.range_succ]
theorem marksV_len (m : Nat) : (marksV m).length = m := by simp [marksV]
def markB (i : Nat) : BlkV := ⟨[], none, 0, ⟨0, markN 1 i, 0, 0⟩⟩
def marksB (m : Nat) : List BlkV := (List.range m).map markB
theorem marksB_succ (m : Nat) : marksB (m + 1) = marksB m ++ [markB m] := by simp [marksB, List.range_succ]
theorem marksB_len (m : Nat) : (marksB m).length = m := by simp [marksB]

set_option maxRecDepth 100000 in
theorem markIns_any (i : Nat) (w : World) (i1 : i ≤ 1000) :
    Calls Tryz.prog 119 #[.int .i64 1, .int .i64 i] w (Fresh w (.agg (markV i).val)) := by
  go_enter Tryz.func119, Tryz.ntmps119
  go_wp2_with fail
  refine (mark_any 1 i _ (by omega) (by omega) (by omega) (by omega)).mono ?_
  rintro e W1 ⟨rfl, rfl⟩
  go_wp2
  exact bodyPost_ret (results_cell_row rfl _ _ _ _ _ _ _ rfl (blk_new w _) Tryz.underlying110 rfl (by kernel_rfl)) rfl ⟨rfl, (Below.refl _ _).alloc (Nat.le_refl _) _⟩
set_option maxRecDepth 100000 in
theorem markBlock_any (i : Nat) (w : World) (i1 : i ≤ 1000) :
    Calls Tryz.prog 80 #[.int .i64 1, .int .i64 i] w (Fresh w (.agg (markB i).val)) := by
  go_enter Tryz.func80, Tryz.ntmps80
  go_wp2_with fail
  refine (mark_any 1 i _ (by omega) (by omega) (by omega) (by omega)).mono ?_
  rintro e W1 ⟨rfl, rfl⟩
  go_wp2
  exact bodyPost_ret (results_cell_row rfl _ _ _ _ _ _ _ rfl (blk_new w _) Tryz.underlying49 rfl (by kernel_rfl)) rfl ⟨rfl, (Below.refl _ _).alloc (Nat.le_refl _) _⟩

/-- Numbers that are lent: twelve marks behind them. -/
def LentI (w : World) (B : Nat) (A : Option Addr) (c : Nat) (xs : List Int) : Prop :=
  w.ownsRow B 3 1 (.slice A (xs.length + 12) c) (xs.length + 12) ((xs ++ marks 12).map (Value.int .i64)) ∧ (∀ x ∈ xs, I64 x) ∧ xs.length ≤ 100000
theorem LentI.below {w w' : World} {B : Nat} {A : Option Addr} {c : Nat} {xs : List Int} (h : LentI w B A c xs) (hb : Below w.heap.size w w') : LentI w' B A c xs := ⟨own_below h.1 hb, h.2⟩
theorem LentI.all {w : World} {B : Nat} {A : Option Addr} {c : Nat} {xs : List Int} (h : LentI w B A c xs) : RI w A (xs ++ marks 12) ∧ xs.length + 12 ≤ c := by
  have hl := h.2.2
  have hx : ∀ x ∈ xs ++ marks 12, I64 x := by
    intro x hx
    rcases List.mem_append.1 hx with q | q
    · exact h.2.1 x q
    · exact marks_i64 (by decide) x q
  have hlen : (xs ++ marks 12).length = xs.length + 12 := by rw [List.length_append, marks_len]
  have h1 := h.1
  rw [← hlen] at h1
  obtain ⟨A', c', e, hc, hr⟩ := own_RI h1 hx (by omega)
  cases e
  exact ⟨hr, by omega⟩
theorem LentI.ri {w : World} {B : Nat} {A : Option Addr} {c : Nat} {xs : List Int} (h : LentI w B A c xs) : RI w A xs := by
  have := take_RI h.all.1 xs.length
  rwa [List.take_left] at this

set_option maxRecDepth 100000 in
set_option maxHeartbeats 2000000 in
theorem LentInts_any (A : Option Addr) (c : Nat) (xs : List Int) (w : World) (hr : RI w A xs) (hl : xs.length ≤ 500) :
    Calls Tryz.prog 10 #[.slice A xs.length c] w fun e w' => ∃ A' c', e = .returned (.slice A' xs.length c') ∧ LentI w' w.heap.size A' c' xs ∧ Below w.heap.size w w' := by
  have hi64 : ∀ x ∈ xs, I64 x := fun x h => I64.of_mem hr.rng h
  have hxn : A = none → xs = [] := fun e => by
    by_cases q : 0 < xs.length
    · obtain ⟨b, off, e1, _⟩ := hr.rd q
      rw [e] at e1; cases e1
    · exact List.eq_nil_of_length_eq_zero (by omega)
  obtain ⟨i0, hi, hz0, hz1, hz2⟩ := info_parts infoInt
  go_enter Tryz.func10, Tryz.ntmps10
  go_wp2_with (first
    | (refine wpList_make_own _ rfl _ _ 22 rfl w.heap.size 3 i0 (.int .i64 0) 1 Tryz.underlying22 hi hz0 hz1 _ _ _ (xs.length + 12) rfl rfl (by simp) (by rw [hz2]; omega) (by unfold maxLen; omega) (Nat.le_refl _) ?_; intro W1 hown1 hgr1; have hB1 : Below w.heap.size w W1 := (Below.refl _ _).grown hgr1 (Nat.le_refl _) (fun k e => by cases e); have hr1 := hr.below hB1; have hS1 := hB1.size)
    | (refine wpList_app rfl _ _ rfl w.heap.size _ rfl [] hown1 _ _ _ rfl xs rfl hr1 hxn hS1 (by simp; omega) ?_; intro v2 W2 hown2 hB2))
  rw [List.nil_append] at hown2
  have hB := hB1.trans hB2
  clear hr1 hS1 hB1 hB2 hown1 hgr1
  go_loopw [3, 4] (fun v3 v4 W => ∃ m : Nat, m ≤ 12 ∧ v4 = .int .i64 m ∧ W.ownsRow w.heap.size 3 1 v3 (xs ++ marks m).length ((xs ++ marks m).map (Value.int .i64)) ∧ Below w.heap.size w W) (fun _ v4 _ => 12 - (intOf v4).toNat)
  case atStart => exact ⟨0, by omega, rfl, by simpa [marks] using hown2, hB⟩
  case round =>
    clear hB hown2
    obtain ⟨m, hm, rfl, hown, hB⟩ := hrel
    by_cases hlt : m < 12
    · have hd : decide ((m : Int) < 12) = true := decide_eq_true (by omega)
      go_wp2_with fail
      refine (mark_any 1 m _ (by omega) (by omega) (by omega) (by omega)).mono ?_
      rintro e W1 ⟨rfl, rfl⟩
      have hb7 := (Below.refl W1.heap.size W1).alloc (Nat.le_refl _) (.cells #[.int .i64 (markN 1 m)] 3)
      have hown7 := own_below hown hb7
      have hn7 := blk_new W1 (.cells #[.int .i64 (markN 1 m)] 3)
      have hS7 := Nat.le_trans hB.size hb7.size
      have hl7 : (xs ++ marks m).length ≤ 100000 := by rw [List.length_append, marks_len]; omega
      have hB7 := hB.trans (hb7.mono hB.size)
      have hms := Lib.hid (marks_succ m)
      go_wp2_with (refine wpList_app1 rfl _ _ rfl w.heap.size _ rfl (xs ++ marks m) hown7 _ _ (markN 1 m) rfl hn7 hS7 hl7 ?_; intro v9 W8 hown8 hg8 _)
      have hB8 := grown_up hown7 hB7 hg8 hS7
      rw [List.append_assoc, ← hms.out] at hown8
      go_roundw
      case rel => exact ⟨m + 1, by omega, by go_num, hown8, hB8⟩
      case measure => simp [intOf]; omega
    · obtain rfl : m = 12 := by omega
      have hd : decide (((12 : Nat) : Int) < 12) = false := by decide
      have hl12 : (xs ++ marks 12).length = xs.length + 12 := by rw [List.length_append, marks_len]
      rw [hl12] at hown
      obtain ⟨g, cap, cur, rfl, hg, hb, hnc, hcm, hcs, htk⟩ := own_some hown (by omega)
      have hle : (xs.length : Int) ≤ (cap : Int) := by omega
      go_wp2
      go_ret
      exact ⟨some ⟨g, 0, none⟩, cap, rfl, ⟨hown, hi64, by omega⟩, hB⟩

end Go.Proofs.YtjichaeegheacaaGreatDoor

/- Flat -/
/-
  Slices of ints in blocks of their own: append onto one of them; what stays.
-/
namespace Go.Proofs.YtjichaeegheacaaGreatDoor
open Go Go.RowKit

/-- A slice: its address, its length, its capacity. -/
structure SV where
  A : Option Addr
  n : Nat
  c : Nat
instance : Inhabited SV := ⟨⟨none, 0, 0⟩⟩
def SV.val (x : SV) : Value := .slice x.A x.n x.c
def SV.bk (x : SV) : Option Nat := x.A.map (·.block)
/-- What lies at place i. -/
def rdS (W : World) (x : SV) (i : Nat) : Option Value := match x.A with
  | some a => W.cell? ⟨a.block, a.off + i, none⟩
  | none => none
/-- Its room is there, in a block of ints. -/
def Ow (W : World) (x : SV) : Prop :=
  (x.A = none ∧ x.n = 0 ∧ x.c = 0) ∨ ∃ b off cur, x.A = some ⟨b, off, none⟩ ∧ W.heap[b]? = some (.cells cur 3 (0, 0)) ∧ off + x.c ≤ cur.size ∧ x.n ≤ x.c
theorem Ow.same {W W' : World} {x : SV} (h : Ow W x) (hs : ∀ b, x.bk = some b → b < W.heap.size → W'.heap[b]? = W.heap[b]?) : Ow W' x := by
  rcases h with h | ⟨b, off, cur, e, hb, h1, h2⟩
  · exact .inl h
  · exact .inr ⟨b, off, cur, e, (hs b (by simp [SV.bk, e]) (blk_lt hb)).trans hb, h1, h2⟩
theorem rdS_same {W W' : World} {x : SV} (hs : ∀ b, x.bk = some b → W'.heap[b]? = W.heap[b]?) (i : Nat) : rdS W' x i = rdS W x i := by
  unfold rdS
  cases hA : x.A with
  | none => rfl
  | some a => exact World.cell?_of_block (a := ⟨a.block, a.off + i, none⟩) (hs a.block (by simp [SV.bk, hA]))
theorem Ow.lt {W : World} {x : SV} (h : Ow W x) {b : Nat} (hb : x.bk = some b) : b < W.heap.size := by
  rcases h with ⟨e, _⟩ | ⟨b', off, cur, e, h1, _⟩
  · simp [SV.bk, e] at hb
  · simp [SV.bk, e] at hb
    subst hb
    exact blk_lt h1
theorem Ow.int {W : World} {x : SV} (h : Ow W x) {b : Nat} (hb : x.bk = some b) : ∃ cur, W.heap[b]? = some (.cells cur 3 (0, 0)) := by
  rcases h with ⟨e, _⟩ | ⟨b', off, cur, e, h1, _⟩
  · simp [SV.bk, e] at hb
  · simp [SV.bk, e] at hb
    subst hb
    exact ⟨cur, h1⟩
/-- Cell i, where it is. -/
theorem Ow.at_ {W : World} {x : SV} (h : Ow W x) {i : Nat} (hi : i < x.c) : ∃ b off cur, x.A = some ⟨b, off, none⟩ ∧ W.heap[b]? = some (.cells cur 3 (0, 0)) ∧ off + i < cur.size := by
  rcases h with ⟨_, _, e⟩ | ⟨b, off, cur, e, h1, h2, _⟩
  · omega
  · exact ⟨b, off, cur, e, h1, by omega⟩
theorem cur_cell {W : World} {b i : Nat} {cur : Array Value} {t : TypeId} (h : W.heap[b]? = some (.cells cur t (0, 0))) (hi : i < cur.size) : ∃ v, W.cell? ⟨b, i, none⟩ = some v := by
  rw [cell_of_row W b i cur t (0, 0) h]
  exact ⟨_, Array.getElem?_eq_getElem hi⟩
theorem heap_setCells_own {b : Nat} {t : TypeId} : ∀ (vs : List Value) (o : Nat) (w : World) (cur : Array Value), w.heap[b]? = some (.cells cur t (0, 0)) → ∃ cur', (w.setCells b o vs).heap[b]? = some (.cells cur' t (0, 0)) ∧ cur'.size = cur.size
  | [], _, _, cur, h => ⟨cur, h, rfl⟩
  | v :: vs, o, w, cur, h => by
    obtain ⟨cur', h1, h2⟩ := heap_setCells_own vs (o + 1) (w.setCell ⟨b, o, none⟩ v) _ (blk_set (i := o) (v := v) h)
    exact ⟨cur', h1, by rw [h2]; simp⟩
theorem size_setCells (b : Nat) : ∀ (vs : List Value) (o : Nat) (w : World), (w.setCells b o vs).heap.size = w.heap.size
  | [], _, _ => rfl
  | v :: vs, o, w => by
    show ((w.setCell ⟨b, o, none⟩ v).setCells b (o + 1) vs).heap.size = _
    rw [size_setCells b vs]; simp [World.setCell]
theorem below_setCells {B : Nat} {a : World} (b : Nat) (hb : B ≤ b) : ∀ (vs : List Value) (o : Nat) (w : World), Below B a w → Below B a (w.setCells b o vs)
  | [], _, _, h => h
  | v :: vs, o, _, h => below_setCells b hb vs (o + 1) _ (h.setCell (p := ⟨b, o, none⟩) hb v)
theorem blk_setCells_far {b k : Nat} (hne : k ≠ b) : ∀ (vs : List Value) (o : Nat) (w : World), (w.setCells b o vs).heap[k]? = w.heap[k]?
  | [], _, _ => rfl
  | v :: vs, o, w => by
    show ((w.setCell ⟨b, o, none⟩ v).setCells b (o + 1) vs).heap[k]? = _
    rw [blk_setCells_far hne vs, blk_far (p := ⟨b, o, none⟩) hne]

/-- What an append leaves. -/
structure AppOut (W : World) (x : SV) (ys : List Int) (x' : SV) (W' : World) : Prop where
  n : x'.n = x.n + ys.length
  own : Ow W' x'
  old : Ow W' x
  size : W.heap.size ≤ W'.heap.size
  below : ∀ B, B ≤ W.heap.size → (∀ b, x.bk = some b → B ≤ b) → Below B W W'
  other : ∀ k, k < W.heap.size → x.bk ≠ some k → W'.heap[k]? = W.heap[k]?
  keep : ∀ i, i < x.n → rdS W' x i = rdS W x i
  pre : ∀ i, i < x.n → rdS W' x' i = rdS W x i
  post : ∀ j, j < ys.length → rdS W' x' (x.n + j) = some (.int .i64 (gI ys j))
  loc : (x'.A = x.A ∧ x'.c = x.c) ∨ ∃ b, x'.bk = some b ∧ W.heap.size ≤ b

theorem gI_map_get {ys : List Int} {j : Nat} (h : j < ys.length) : (ys.map (Value.int .i64))[j]? = some (.int .i64 (gI ys j)) := by
  rw [List.getElem?_map, gI_get h]; rfl

theorem app_sl {W : World} {x : SV} {ty : TypeId} (hO : Ow W x) (g cq : Nat) (ys : List Int) (hg : ∀ j, j < ys.length → W.cell? ⟨g, j, none⟩ = some (.int .i64 (gI ys j))) (hpos : 0 < ys.length) (hbig : x.n + ys.length ≤ 1000000) :
    ∃ x' W', (Builtin.append_ #[22, 22] ty #[x.val, .slice (some ⟨g, 0, none⟩) ys.length cq]).run Tryz.prog W = .ok x'.val W' ∧ AppOut W x ys x' W' := by
  obtain ⟨i0, hi, hz0, hz1, hz2⟩ := info_parts infoInt
  have hnews : ∀ j u, (ys.map (Value.int .i64))[j]? = some u → W.cell? ((⟨g, 0, none⟩ : Addr).add j) = some u := by
    intro j u hu
    have hadd : (⟨g, 0, none⟩ : Addr).add j = ⟨g, j, none⟩ := by unfold Addr.add; split <;> simp_all
    by_cases hj : j < ys.length
    · rw [gI_map_get hj] at hu
      cases hu
      rw [hadd]; exact hg j hj
    · rw [List.getElem?_eq_none (by simpa using hj)] at hu
      cases hu
  have h1 : ∀ u ∈ ys.map (Value.int .i64), u.oneCell' = true := by
    intro u hu
    obtain ⟨z, _, rfl⟩ := List.mem_map.1 hu
    rfl
  have hlen : (ys.map (Value.int .i64)).length = ys.length * i0.size := by rw [hz1]; simp
  have grow : ∀ (xs : List Value) (v' : Value) (W' : World), x.c < x.n + ys.length → W'.ownsRow W.heap.size 3 1 v' (x.n + ys.length) (xs ++ ys.map (Value.int .i64)) → W.grownBy W' none → xs.length = x.n → (∀ i, i < x.n → xs[i]? = rdS W x i) →
      ∃ x', v' = x'.val ∧ AppOut W x ys x' W' := by
    intro xs v' W' _ hown hgr hxl hxs
    obtain ⟨g2, cap, cur, rfl, hg2, hb2, hnc, hcm, hcs, htk⟩ := own_some hown (by omega)
    rw [Nat.mul_one] at hcs htk
    have hcell : ∀ i, i < x.n + ys.length → W'.cell? ⟨g2, i, none⟩ = (xs ++ ys.map (Value.int .i64))[i]? := fun i hi => by
      rw [cell_of_row W' g2 i cur _ (0, 0) hb2, ← htk]
      simp [hi]
    refine ⟨⟨some ⟨g2, 0, none⟩, x.n + ys.length, cap⟩, rfl, rfl, .inr ⟨g2, 0, cur, rfl, hb2, by simp only; omega, hnc⟩, hO.same fun b _ hlt => hgr.block b hlt (by simp), hgr.size, fun B hB _ => (Below.refl B W).grown hgr hB (fun k e => by cases e), fun k hk _ => hgr.block k hk (by simp), fun i hi => ?_, fun i hi => ?_, fun j hj => ?_, .inr ⟨g2, rfl, hg2⟩⟩
    · exact rdS_same (fun b hb => hgr.block b (hO.lt hb) (by simp)) i
    · show W'.cell? ⟨g2, 0 + i, none⟩ = _
      rw [Nat.zero_add, hcell i (by omega), List.getElem?_append_left (by omega), hxs i hi]
    · show W'.cell? ⟨g2, 0 + (x.n + j), none⟩ = _
      rw [Nat.zero_add, hcell _ (by omega), List.getElem?_append_right (by omega), hxl, show x.n + j - x.n = j by omega, gI_map_get hj]
  rcases hO with ⟨eA, en, ec⟩ | ⟨b, off, cur, eA, hb, hsz, hnc⟩
  · have hown0 : W.ownsRow W.heap.size 3 1 (.slice none 0 0) 0 [] := World.ownsRow_nil _ _ _ _
    obtain ⟨v', W', hr, h2, h3, _⟩ := run_append_own (P := Tryz.prog) W W.heap.size 22 ty 3 i0 (.int .i64 0) 1 8 Tryz.underlying22 hi hz0 hz1 hz2 rfl (by decide) _ 0 [] hown0 ⟨g, 0, none⟩ ys.length cq _ (by simp) hnews h1 (by unfold maxLen; omega) (by omega) (Nat.le_refl _)
    have hv : x.val = .slice none 0 0 := by simp [SV.val, eA, en, ec]
    obtain ⟨x', rfl, ha⟩ := grow [] v' W' (by omega) (by rw [en]; exact h2) h3 (by simp [en]) (fun i hi => by omega)
    exact ⟨x', W', by rw [hv]; exact hr, ha⟩
  · have hv : x.val = .slice (some ⟨b, off, none⟩) x.n x.c := by simp [SV.val, eA]
    have hrd : ∀ (V : World) (i : Nat), rdS V x i = V.cell? ⟨b, off + i, none⟩ := fun V i => by unfold rdS; rw [eA]
    have hbk : x.bk = some b := by simp [SV.bk, eA]
    by_cases hroom : x.n + ys.length ≤ x.c
    · have hcells : ∀ j, j < (ys.map (Value.int .i64)).length → (W.cell? ⟨b, off + x.n * i0.size + j, none⟩).isSome = true := fun j hj => by
        rw [List.length_map] at hj
        obtain ⟨v, hv⟩ := cur_cell hb (i := off + x.n * i0.size + j) (by rw [hz1]; omega)
        rw [hv]; rfl
      have hr := run_append_room_cells (P := Tryz.prog) W 22 ty 3 i0 Tryz.underlying22 hi b off x.n x.c ⟨g, 0, none⟩ ys.length cq _ hlen hnews h1 hroom hcells (fun j _ => frozen_of_row W b _ cur _ hb)
      rw [hz1, Nat.mul_one] at hr hcells
      obtain ⟨cur', hb', hsz'⟩ := heap_setCells_own (ys.map (Value.int .i64)) (off + x.n) W cur hb
      have hout : ∀ i, i < x.n → (W.setCells b (off + x.n) (ys.map (Value.int .i64))).cell? ⟨b, off + i, none⟩ = W.cell? ⟨b, off + i, none⟩ := fun i hi => World.cell?_setCells_out b _ _ W _ (fun _ _ => .inl (by simp only; omega))
      refine ⟨⟨some ⟨b, off, none⟩, x.n + ys.length, x.c⟩, _, by rw [hv]; exact hr, rfl, .inr ⟨b, off, cur', rfl, hb', by simp only; omega, hroom⟩, .inr ⟨b, off, cur', eA, hb', by omega, hnc⟩, by rw [size_setCells]; exact Nat.le_refl _, fun B _ hB => below_setCells b (hB b hbk) _ _ W (Below.refl _ _), fun k _ hk => blk_setCells_far (fun e => hk (by rw [hbk, e])) _ _ W, fun i hi => ?_, fun i hi => ?_, fun j hj => ?_, .inl ⟨eA.symm, rfl⟩⟩
      · rw [hrd, hrd]; exact hout i hi
      · rw [hrd]; exact hout i hi
      · show (W.setCells b (off + x.n) (ys.map (Value.int .i64))).cell? ⟨b, off + (x.n + j), none⟩ = _
        have := World.cell?_setCells_in b (ys.map (Value.int .i64)) (off + x.n) W hcells j (by simpa using hj)
        rw [show off + (x.n + j) = off + x.n + j by omega, this]
        simp [gI, hj]
    · have holds : ∀ j u, ((List.range x.n).map fun i => (W.cell? ⟨b, off + i, none⟩).getD undef)[j]? = some u → W.cell? ((⟨b, off, none⟩ : Addr).add j) = some u := by
        intro j u hu
        have hadd : (⟨b, off, none⟩ : Addr).add j = ⟨b, off + j, none⟩ := by unfold Addr.add; split <;> simp_all
        by_cases hj : j < x.n
        · obtain ⟨v, hv⟩ := cur_cell hb (i := off + j) (by omega)
          simp [hj, hv] at hu
          subst hu
          rw [hadd]; exact hv
        · rw [List.getElem?_eq_none (by simpa using hj)] at hu
          cases hu
      obtain ⟨v', W', hr, h2, h3⟩ := run_append_arg_grows (P := Tryz.prog) W 22 ty 3 i0 (.int .i64 0) 1 8 Tryz.underlying22 hi hz0 hz1 hz2 rfl (by decide) ⟨b, off, none⟩ x.n x.c _ (by simp) holds ⟨g, 0, none⟩ ys.length cq _ (by simp) hnews (by omega) (by unfold maxLen; omega) (by omega)
      obtain ⟨x', rfl, ha⟩ := grow _ v' W' (by omega) h2 h3 (by simp) (fun i hi => by
        obtain ⟨v, hv⟩ := cur_cell hb (i := off + i) (by omega)
        rw [hrd, hv]
        simp [hi, hv])
      exact ⟨x', W', by rw [hv]; exact hr, ha⟩

theorem wpList_appSl {ops : Array Oper} {rest : List Oper} {o : Oper} {a : Act} {w : World} {Q : Exit → Act → World → Prop} (hgd : o.guard = none) (s y : Operand)
    (ho : o.op = .call { callee := .builtin .append, args := #[s, y], argTypes := #[22, 22] }) (x : SV) (hs : a.eval s = .slice x.A x.n x.c) (hO : Ow w x)
    (g cq m : Nat) (ys : List Int) (hy : a.eval y = .slice (some ⟨g, 0, none⟩) m cq) (hm : m = ys.length) (hg : ∀ j, j < ys.length → w.cell? ⟨g, j, none⟩ = some (.int .i64 (gI ys j))) (hpos : 0 < ys.length) (hbig : x.n + ys.length ≤ 1000000)
    (h : ∀ x' w', AppOut w x ys x' w' → wpList Tryz.prog ops Q rest (a.put o.dst (.slice x'.A x'.n x'.c)) w') : wpList Tryz.prog ops Q (o :: rest) a w :=
  wpList_plain hgd fun K hK => by
    subst hm
    obtain ⟨x', w', hrun, h2⟩ := app_sl (ty := o.type) hO g cq ys hg hpos hbig
    unfold SV.val at hrun
    unfold Oper.wp execOp
    simp only [ho, resolve, invoke, builtin, Sem.run_bind, Sem.run_pure, Result.andThen_ok, List.map_toArray, List.map_cons, List.map_nil, hs, hy, hrun]
    exact hK _ _ (h x' w' h2)

end Go.Proofs.YtjichaeegheacaaGreatDoor

/- FlatS -/
/-
  intarsiakit.flatInts: slices of ints that lie in blocks of their own are found to lie apart.
-/
namespace Go.Proofs.YtjichaeegheacaaGreatDoor
open Go Go.RowKit

def gS (xs : List SV) (k : Nat) : SV := xs[k]?.getD default
theorem gS_append {xs ys : List SV} {k : Nat} (h : k < xs.length) : gS (xs ++ ys) k = gS xs k := by simp [gS, List.getElem?_append_left h]
theorem gS_last {xs : List SV} {y : SV} : gS (xs ++ [y]) xs.length = y := by simp [gS]

/-- The lists, in their row; what is known of them throughout. -/
structure LS (w : World) (B Lb : Nat) (cs : Array Value) (xs : List SV) (W : World) : Prop where
  row : W.heap[Lb]? = some (.cells cs 22 (0, 0))
  own : ∀ k, k < xs.length → Ow W (gS xs k)
  below : Below B w W
  fr : ∀ b, b < w.heap.size → (∀ k, k < xs.length → (gS xs k).bk ≠ some b) → W.heap[b]? = w.heap[b]?
/-- They are marked up to number k. -/
def MkTo (xs : List SV) (W : World) (k : Nat) : Prop := ∀ j, j < k → ∀ i, i < (gS xs j).n → rdS W (gS xs j) i = some (.int .i64 (markN j i))
/-- Where they lie: apart, above B. -/
structure LA (B : Nat) (xs : List SV) : Prop where
  sep : ∀ i j, i < xs.length → j < xs.length → i ≠ j → ∀ b, (gS xs i).bk = some b → (gS xs j).bk ≠ some b
  low : ∀ i, i < xs.length → ∀ b, (gS xs i).bk = some b → B ≤ b
/-- What turned was in the block of list k, and its own first places stayed. -/
structure Tk (xs : List SV) (k : Nat) (W W' : World) : Prop where
  size : W.heap.size ≤ W'.heap.size
  other : ∀ b, b < W.heap.size → (gS xs k).bk ≠ some b → W'.heap[b]? = W.heap[b]?
  own : Ow W' (gS xs k)
  keep : ∀ i, i < (gS xs k).n → rdS W' (gS xs k) i = rdS W (gS xs k) i
theorem Tk.trans {xs : List SV} {k : Nat} {A C D : World} (h : Tk xs k A C) (g : Tk xs k C D) : Tk xs k A D :=
  ⟨Nat.le_trans h.size g.size, fun b hb hne => (g.other b (Nat.lt_of_lt_of_le hb h.size) hne).trans (h.other b hb hne), g.own, fun i hi => (g.keep i hi).trans (h.keep i hi)⟩
theorem Tk.of_below {xs : List SV} {k : Nat} {W W' : World} (h : Below W.heap.size W W') (hO : Ow W (gS xs k)) : Tk xs k W W' :=
  ⟨h.size, fun b hb _ => h.block b hb, hO.same fun b _ hb => h.block b hb, fun i _ => rdS_same (fun b hb => h.block b (hO.lt hb)) i⟩
theorem row_ne {W : World} {Lb b : Nat} {cs : Array Value} {x : SV} (hr : W.heap[Lb]? = some (.cells cs 22 (0, 0))) (hO : Ow W x) (hb : x.bk = some b) : Lb ≠ b := by
  rintro rfl
  obtain ⟨cur, h⟩ := hO.int hb
  rw [hr] at h
  cases h
/-- A list's frame carries all that is known. -/
theorem LS.tk {w : World} {B Lb : Nat} {cs : Array Value} {xs : List SV} {W W' : World} {k : Nat} (h : LS w B Lb cs xs W) (ha : LA B xs) (hk : k < xs.length) (ht : Tk xs k W W') (hb : Below B W W') : LS w B Lb cs xs W' := by
  refine ⟨?_, fun j hj => ?_, h.below.trans hb, fun b hb2 hne => (ht.other b (Nat.lt_of_lt_of_le hb2 h.below.size) (hne k hk)).trans (h.fr b hb2 hne)⟩
  · exact (ht.other Lb (blk_lt h.row) fun e => row_ne h.row (h.own k hk) e rfl).trans h.row
  · by_cases e : j = k
    · subst e; exact ht.own
    · exact (h.own j hj).same fun b hb2 hlt => ht.other b hlt (ha.sep j k hj hk e b hb2)
theorem MkTo.tk {B : Nat} {xs : List SV} {W W' : World} {k m : Nat} (h : MkTo xs W m) (hm : m ≤ xs.length) (ho : ∀ k, k < xs.length → Ow W (gS xs k)) (ha : LA B xs) (hk : k < xs.length) (ht : Tk xs k W W') : MkTo xs W' m := by
  intro j hj i hi
  by_cases e : j = k
  · subst e; exact (ht.keep i hi).trans (h j hj i hi)
  · exact (rdS_same (fun b hb => ht.other b ((ho j (by omega)).lt hb) (ha.sep j k (by omega) hk e b hb)) i).trans (h j hj i hi)

/-- The grown ones, in their row: those ahead of k, each marked to its M. -/
structure GS (xs gs : List SV) (Gb : Nat) (M : Nat → Nat) (W : World) : Prop where
  row : ∃ cs, W.heap[Gb]? = some (.cells cs 22 (0, 0)) ∧ cs.size = xs.length ∧ ∀ j, j < gs.length → cs[j]? = some (gS gs j).val
  own : ∀ j, j < gs.length → Ow W (gS gs j)
  sep : ∀ j, j < gs.length → ∀ l, l < xs.length → l ≠ j → ∀ b, (gS xs l).bk = some b → (gS gs j).bk ≠ some b
  len : ∀ j, j < gs.length → (gS gs j).n = (gS xs j).n + 64
  mks : ∀ j, j < gs.length → ∀ i, i < M j → rdS W (gS gs j) i = some (.int .i64 (markN j i))
theorem GS.tk {xs gs : List SV} {Gb : Nat} {M : Nat → Nat} {W W' : World} {k : Nat} (h : GS xs gs Gb M W) (ho : Ow W (gS xs k)) (hk : k < xs.length) (hg : gs.length ≤ k) (ht : Tk xs k W W') : GS xs gs Gb M W' := by
  obtain ⟨cs, hr, hc, hj⟩ := h.row
  have hne : ∀ j, j < gs.length → ∀ b, (gS gs j).bk = some b → b < W.heap.size → W'.heap[b]? = W.heap[b]? := fun j hjl b hb hlt => ht.other b hlt fun e => h.sep j hjl k hk (by omega) b e hb
  refine ⟨⟨cs, (ht.other Gb (blk_lt hr) fun e => row_ne hr ho e rfl).trans hr, hc, hj⟩, fun j hjl => (h.own j hjl).same fun b hb hlt => hne j hjl b hb hlt, h.sep, h.len, fun j hjl i hi => (rdS_same (fun b hb => hne j hjl b hb ((h.own j hjl).lt hb)) i).trans (h.mks j hjl i hi)⟩
/-- All stays where memory is made alone. -/
theorem LS.up {w : World} {B Lb : Nat} {cs : Array Value} {xs : List SV} {W W' : World} (h : LS w B Lb cs xs W) (hB : B ≤ W.heap.size) (hb : Below W.heap.size W W') : LS w B Lb cs xs W' :=
  ⟨blk_below hb h.row (blk_lt h.row), fun k hk => (h.own k hk).same fun b _ hlt => hb.block b hlt, h.below.trans (hb.mono hB), fun b hb2 hne => (hb.block b (Nat.lt_of_lt_of_le hb2 h.below.size)).trans (h.fr b hb2 hne)⟩
theorem MkTo.up {xs : List SV} {W W' : World} {m : Nat} (h : MkTo xs W m) (hm : m ≤ xs.length) (ho : ∀ k, k < xs.length → Ow W (gS xs k)) (hb : Below W.heap.size W W') : MkTo xs W' m := fun j hj i hi =>
  (rdS_same (fun b hb2 => hb.block b ((ho j (by omega)).lt hb2)) i).trans (h j hj i hi)
theorem GS.up {xs gs : List SV} {Gb : Nat} {M : Nat → Nat} {W W' : World} (h : GS xs gs Gb M W) (hb : Below W.heap.size W W') : GS xs gs Gb M W' := by
  obtain ⟨cs, hr, hc, hj⟩ := h.row
  exact ⟨⟨cs, blk_below hb hr (blk_lt hr), hc, hj⟩, fun j hjl => (h.own j hjl).same fun b _ hlt => hb.block b hlt, h.sep, h.len, fun j hjl i hi => (rdS_same (fun b hb2 => hb.block b ((h.own j hjl).lt hb2)) i).trans (h.mks j hjl i hi)⟩
/-- A new one is put into the row. -/
theorem GS.put {xs gs : List SV} {Gb : Nat} {M : Nat → Nat} {W : World} (h : GS xs gs Gb M W) (hlt : gs.length < xs.length) {g : SV} (hO : Ow W g) (hs : ∀ l, l < xs.length → l ≠ gs.length → ∀ b, (gS xs l).bk = some b → g.bk ≠ some b) (hn : g.n = (gS xs gs.length).n + 64)
    (hm : ∀ i, i < M gs.length → rdS W g i = some (.int .i64 (markN gs.length i))) : GS xs (gs ++ [g]) Gb M (W.setCell ⟨Gb, gs.length, none⟩ g.val) := by
  obtain ⟨cs, hr, hc, hj⟩ := h.row
  have hfar : ∀ x : SV, Ow W x → ∀ b, x.bk = some b → (W.setCell ⟨Gb, gs.length, none⟩ g.val).heap[b]? = W.heap[b]? := fun x hx b hb => blk_far (p := ⟨Gb, gs.length, none⟩) (fun e => row_ne hr hx hb e.symm)
  refine ⟨⟨_, blk_set hr, by simp [hc], fun j hjl => ?_⟩, fun j hjl => ?_, fun j hjl => ?_, fun j hjl => ?_, fun j hjl i hi => ?_⟩
  all_goals
    rw [List.length_append] at hjl
    by_cases e : j = gs.length
  · subst e
    rw [gS_last, Array.getElem?_setIfInBounds, if_pos rfl, if_pos (by omega)]
  · rw [gS_append (by simp at hjl; omega), Array.getElem?_setIfInBounds, if_neg (fun q => e q.symm)]
    exact hj j (by simp at hjl; omega)
  · subst e
    rw [gS_last]
    exact hO.same fun b hb _ => hfar g hO b hb
  · rw [gS_append (by simp at hjl; omega)]
    exact (h.own j (by simp at hjl; omega)).same fun b hb _ => hfar _ (h.own j (by simp at hjl; omega)) b hb
  · subst e
    rw [gS_last]; exact hs
  · rw [gS_append (by simp at hjl; omega)]; exact h.sep j (by simp at hjl; omega)
  · subst e
    rw [gS_last]; exact hn
  · rw [gS_append (by simp at hjl; omega)]; exact h.len j (by simp at hjl; omega)
  · subst e
    rw [gS_last]
    exact (rdS_same (fun b hb => hfar g hO b hb) i).trans (hm i hi)
  · rw [gS_append (by simp at hjl; omega)]
    exact (rdS_same (fun b hb => hfar _ (h.own j (by simp at hjl; omega)) b hb) i).trans (h.mks j (by simp at hjl; omega) i hi)
theorem LS.set {w : World} {B Lb Gb : Nat} {cs cg : Array Value} {xs : List SV} {W : World} (h : LS w B Lb cs xs W) (hg : W.heap[Gb]? = some (.cells cg 22 (0, 0))) (hne : Lb ≠ Gb) (hB : B ≤ Gb) (hGw : w.heap.size ≤ Gb) (i : Nat) (v : Value) : LS w B Lb cs xs (W.setCell ⟨Gb, i, none⟩ v) :=
  ⟨(blk_far (p := ⟨Gb, i, none⟩) hne).trans h.row, fun k hk => (h.own k hk).same fun _ hb _ => blk_far (p := ⟨Gb, i, none⟩) (fun e => row_ne hg (h.own k hk) hb e.symm), h.below.setCell (p := ⟨Gb, i, none⟩) hB v, fun b hb hn => (blk_far (p := ⟨Gb, i, none⟩) (by simp only; omega)).trans (h.fr b hb hn)⟩
theorem MkTo.set {xs : List SV} {W : World} {m Gb : Nat} {cg : Array Value} (h : MkTo xs W m) (hm : m ≤ xs.length) (ho : ∀ k, k < xs.length → Ow W (gS xs k)) (hg : W.heap[Gb]? = some (.cells cg 22 (0, 0))) (i : Nat) (v : Value) : MkTo xs (W.setCell ⟨Gb, i, none⟩ v) m := fun j hj q hq =>
  (rdS_same (fun _ hb => blk_far (p := ⟨Gb, i, none⟩) (fun e => row_ne hg (ho j (by omega)) hb e.symm)) q).trans (h j hj q hq)

end Go.Proofs.YtjichaeegheacaaGreatDoor
