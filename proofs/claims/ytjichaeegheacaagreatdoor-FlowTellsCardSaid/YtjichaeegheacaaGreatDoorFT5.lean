/-
  Order
-/
import Derived.Test.YtjichaeegheacaaGreatDoorFT4
import Derived.Laws.EntriesVeiled

/-
  Package flow: Order: going through in depth, by a function literal that calls itself.
-/
namespace Go.Proofs.YtjichaeegheacaaGreatDoor
open Go Go.RowKit

/-- What a going through leaves alone: all but three blocks. -/
structure Turn (g f r : Nat) (W W' : World) : Prop where
  os : W'.os = W.os
  tape : W'.tape = W.tape
  output : W'.output = W.output
  size : W.heap.size ≤ W'.heap.size
  same : ∀ k, k < W.heap.size → k ≠ g → k ≠ f → k ≠ r → W'.heap[k]? = W.heap[k]?
theorem Turn.refl (g f r : Nat) (W : World) : Turn g f r W W := ⟨rfl, rfl, rfl, Nat.le_refl _, fun _ _ _ _ _ => rfl⟩
theorem Turn.trans {g f r : Nat} {A B C : World} (h : Turn g f r A B) (k : Turn g f r B C) : Turn g f r A C :=
  ⟨k.os.trans h.os, k.tape.trans h.tape, k.output.trans h.output, Nat.le_trans h.size k.size, fun i hi a b c => (k.same i (Nat.lt_of_lt_of_le hi h.size) a b c).trans (h.same i hi a b c)⟩
theorem Turn.of_below {g f r : Nat} {W W' : World} (h : Below W.heap.size W W') : Turn g f r W W' := ⟨h.os, h.tape, h.output, h.size, fun k hk _ _ _ => h.block k hk⟩
theorem Turn.setRow1 (g f r : Nat) (W : World) (cs : Array Value) : Turn g f r W (W.setRow g cs) := ⟨rfl, rfl, rfl, by simp, fun _ _ h _ _ => blk_setRow_far h⟩
theorem Turn.setCell2 (g f r : Nat) (W : World) (i : Nat) (v : Value) : Turn g f r W (W.setCell ⟨f, i, none⟩ v) := ⟨rfl, rfl, rfl, by simp, fun _ _ _ h _ => blk_far (p := ⟨f, i, none⟩) h⟩
theorem Turn.setCell3 (g f r : Nat) (W : World) (i : Nat) (v : Value) : Turn g f r W (W.setCell ⟨r, i, none⟩ v) := ⟨rfl, rfl, rfl, by simp, fun _ _ _ _ h => blk_far (p := ⟨r, i, none⟩) h⟩
theorem Turn.below {g f r B : Nat} {W W' : World} (h : Turn g f r W W') (hB : B ≤ W.heap.size) (hg : B ≤ g) (hf : B ≤ f) (hr : B ≤ r) : Below B W W' :=
  ⟨h.os, h.tape, h.output, h.size, fun k hk => h.same k (by omega) (by omega) (by omega) (by omega)⟩
theorem Turn.blk {g f r : Nat} {W W' : World} (h : Turn g f r W W') {k : Nat} {o : Obj} (hk : W.heap[k]? = some o) (a : k ≠ g) (b : k ≠ f) (c : k ≠ r) : W'.heap[k]? = some o := (h.same k (blk_lt hk) a b c).trans hk
theorem own_turn {g f r : Nat} {W W' : World} {B : Nat} {v : Value} {n : Nat} {xs : List Value} (h : W.ownsRow B 3 1 v n xs) (ht : Turn g f r W W') (hg : g < B) (hf : f < B) (hr : r < B) : W'.ownsRow B 3 1 v n xs := by
  refine ⟨h.1, ?_⟩
  rcases h.2 with h | ⟨k, cap, cur, e, hb, hk, q⟩
  · exact .inl h
  · exact .inr ⟨k, cap, cur, e, hb, ht.blk hk (by omega) (by omega) (by omega), q⟩

/-- The variables of a going through, where they lie. -/
structure OEnv where
  gb : Nat
  fb : Nat
  tb : Nat
  frb : Nat
  ob : Nat
  rb : Nat
  P : Value
  A : Option Addr
  c : Nat
  bs : List Blk
def OEnv.cap (E : OEnv) : Array Value := #[.pointer (some ⟨E.gb, 0, none⟩), .pointer (some ⟨E.fb, 0, none⟩), .pointer (some ⟨E.tb, 0, none⟩), .pointer (some ⟨E.frb, 0, none⟩), .pointer (some ⟨E.ob, 0, none⟩)]
structure OEnv.ne (E : OEnv) : Prop where
  h1 : E.fb ≠ E.gb ∧ E.fb ≠ E.frb ∧ E.fb ≠ E.rb
  h2 : E.tb ≠ E.gb ∧ E.tb ≠ E.frb ∧ E.tb ≠ E.rb
  h3 : E.ob ≠ E.gb ∧ E.ob ≠ E.frb ∧ E.ob ≠ E.rb
  h4 : E.gb ≠ E.frb ∧ E.gb ≠ E.rb ∧ E.frb ≠ E.rb
/-- How things stand in a going through. -/
structure OAt (E : OEnv) (W : World) (s : St) : Prop where
  gone : W.heap[E.gb]? = some (.cells (setA s.G) 70 (0, 0))
  func : W.heap[E.fb]? = some (.cells #[E.P, .slice E.A E.bs.length E.c] 25 (0, 0))
  lit : W.heap[E.tb]? = some (.cells #[.func (.func 57) #[] E.cap] 71 (0, 0))
  free : W.heap[E.frb]? = some (.cells #[.int .i64 ((E.bs.length - s.L.length : Nat) : Int)] 3 (0, 0))
  out : W.heap[E.ob]? = some (.cells #[.slice (some ⟨E.rb, 0, none⟩) E.bs.length E.bs.length] 22 (0, 0))
  row : ∃ cs : Array Value, W.heap[E.rb]? = some (.cells cs 3 (0, 0)) ∧ cs.size = E.bs.length ∧ ∀ j, j < s.L.length → cs[E.bs.length - s.L.length + j]? = some (.int .i64 (gI s.L j))
  rf : RF W E.A E.bs
  apart : ∀ b off, E.A = some ⟨b, off, none⟩ → b ≠ E.gb ∧ b ≠ E.frb ∧ b ≠ E.rb

theorem RF.turn {g f r : Nat} {W W' : World} {A : Option Addr} {bs : List Blk} (h : RF W A bs) (ht : Turn g f r W W') (ha : ∀ b off, A = some ⟨b, off, none⟩ → b ≠ g ∧ b ≠ f ∧ b ≠ r) : RF W' A bs := by
  refine ⟨h.len, h.ok, h.one, fun hm => ?_⟩
  obtain ⟨b, off, e, hlt, hc⟩ := h.rd hm
  obtain ⟨n1, n2, n3⟩ := ha b off e
  refine ⟨b, off, e, Nat.lt_of_lt_of_le hlt ht.size, fun i hi => ?_⟩
  rw [← hc i hi]
  show (World.cell? W' _) = World.cell? W _
  unfold World.cell?
  rw [ht.same b hlt n1 n2 n3]

theorem OAt.below {E : OEnv} {W W' : World} {s : St} (h : OAt E W s) (hb : Below W.heap.size W W') : OAt E W' s := by
  obtain ⟨cs, h1, h2, h3⟩ := h.row
  exact ⟨blk_below hb h.gone (blk_lt h.gone), blk_below hb h.func (blk_lt h.func), blk_below hb h.lit (blk_lt h.lit), blk_below hb h.free (blk_lt h.free), blk_below hb h.out (blk_lt h.out), ⟨cs, blk_below hb h1 (blk_lt h1), h2, h3⟩, h.rf.below hb, h.apart⟩
theorem OAt.gone_set {E : OEnv} (hE : E.ne) {W : World} {s : St} (h : OAt E W s) (G : Nat) : OAt E (W.setRow E.gb (setA G)) ⟨G, s.L⟩ := by
  have ht := Turn.setRow1 E.gb E.frb E.rb W (setA G)
  obtain ⟨cs, h1, h2, h3⟩ := h.row
  refine ⟨blk_setRow h.gone, ht.blk h.func hE.h1.1 hE.h1.2.1 hE.h1.2.2, ht.blk h.lit hE.h2.1 hE.h2.2.1 hE.h2.2.2, ?_, ht.blk h.out hE.h3.1 hE.h3.2.1 hE.h3.2.2, ⟨cs, ?_, h2, h3⟩, h.rf.turn ht h.apart, h.apart⟩
  · exact (blk_setRow_far hE.h4.1.symm).trans h.free
  · exact (blk_setRow_far hE.h4.2.1.symm).trans h1
/-- One block is put. -/
theorem OAt.put {E : OEnv} (hE : E.ne) {W : World} {s : St} (h : OAt E W s) (x : Int) (hl : s.L.length < E.bs.length) :
    OAt E ((W.setCell ⟨E.frb, 0, none⟩ (.int .i64 ((E.bs.length - s.L.length - 1 : Nat) : Int))).setCell ⟨E.rb, E.bs.length - s.L.length - 1, none⟩ (.int .i64 x)) ⟨s.G, x :: s.L⟩ := by
  have ht := (Turn.setCell2 E.gb E.frb E.rb W 0 (.int .i64 ((E.bs.length - s.L.length - 1 : Nat) : Int))).trans (Turn.setCell3 E.gb E.frb E.rb _ (E.bs.length - s.L.length - 1) (.int .i64 x))
  obtain ⟨cs, h1, h2, h3⟩ := h.row
  refine ⟨?_, ht.blk h.func hE.h1.1 hE.h1.2.1 hE.h1.2.2, ht.blk h.lit hE.h2.1 hE.h2.2.1 hE.h2.2.2, ?_, ht.blk h.out hE.h3.1 hE.h3.2.1 hE.h3.2.2, ⟨cs.setIfInBounds (E.bs.length - s.L.length - 1) (.int .i64 x), ?_, by simpa using h2, fun j hj => ?_⟩, h.rf.turn ht h.apart, h.apart⟩
  · exact (blk_far (p := ⟨E.rb, _, none⟩) hE.h4.2.1).trans ((blk_far (p := ⟨E.frb, 0, none⟩) hE.h4.1).trans h.gone)
  · refine (blk_far (p := ⟨E.rb, _, none⟩) hE.h4.2.2).trans ((blk_set h.free).trans ?_)
    simp only [List.length_cons]
    rw [show E.bs.length - (s.L.length + 1) = E.bs.length - s.L.length - 1 by omega]
    rfl
  · exact blk_set ((blk_far (p := ⟨E.frb, 0, none⟩) hE.h4.2.2.symm).trans h1)
  · simp only [List.length_cons] at hj ⊢
    rw [Array.getElem?_setIfInBounds]
    cases j with
    | zero =>
      rw [if_pos (by omega), if_pos (by omega)]
      rfl
    | succ j =>
      rw [if_neg (by omega), show E.bs.length - (s.L.length + 1) + (j + 1) = E.bs.length - s.L.length + j by omega, h3 j (by omega)]
      simp [gI]

set_option maxRecDepth 100000 in
set_option maxHeartbeats 2000000 in
theorem through_any (E : OEnv) (hE : E.ne) (hcl : Cl E.bs) (fuel : Nat) : ∀ (s : St) (d k : Nat) (W : World), k < E.bs.length → cntG s.G E.bs.length = s.L.length + d → E.bs.length - cntG s.G E.bs.length < fuel → OAt E W s →
    E.gb < W.heap.size → E.frb < W.heap.size → E.rb < W.heap.size →
    Calls Tryz.prog 57 #[.int .i64 (k : Int), .pointer (some ⟨E.gb, 0, none⟩), .pointer (some ⟨E.fb, 0, none⟩), .pointer (some ⟨E.tb, 0, none⟩), .pointer (some ⟨E.frb, 0, none⟩), .pointer (some ⟨E.ob, 0, none⟩)] W fun e W' => (∃ v, e = .returned v) ∧ ∃ s', Thr (suB E.bs) [(k : Int)] s s' ∧ OAt E W' s' ∧ Turn E.gb E.frb E.rb W W' ∧ cntG s'.G E.bs.length = s'.L.length + d := by
  induction fuel with
  | zero =>
    intro s d k W hk hc hf hA b1 b2 b3
    omega
  | succ fuel ih =>
    intro s d k W hk hc hf hA b1 b2 b3
    have hle := hcl.le
    have hI : I64 (k : Int) := ⟨by omega, by omega⟩
    have qH := Has_any s.G (k : Int) W hI
    have hg := hA.gone
    cases hh : hasN s.G (k : Int)
    · rw [show (inR (k : Int) && s.G.testBit (k : Int).toNat) = false from hh] at qH
      go_enter Tryz.func57, Tryz.ntmps57
      go_wp2_with (refine wpList_load_row rfl _ _ rfl _ rfl _ _ _ _ hg Tryz.underlying70 rfl (szSetA _) ?_)
      refine qH.mono ?_
      rintro e W1 ⟨rfl, hb1⟩
      have hA1 := hA.below hb1
      have hg1 := hA1.gone
      go_wp2_with (refine wpList_load_row rfl _ _ rfl _ rfl _ _ _ _ hg1 Tryz.underlying70 rfl (szSetA _) ?_)
      have hrd : RI (W1.alloc (.cells #[.int .i64 (k : Int)] 3)) (some ⟨W1.heap.size, 0, none⟩) [(k : Int)] := RI_lit (blk_new W1 _) (by simpa using hI) (by simp)
      refine (With_any s.G _ 1 [(k : Int)] _ hrd).mono ?_
      rintro e W2 ⟨rfl, hb2⟩
      have hbA := (Below.refl W1.heap.size W1).alloc (Nat.le_refl _) (.cells #[.int .i64 (k : Int)] 3)
      have hA2 := hA1.below (hbA.trans (hb2.mono hbA.size))
      have hg2 := hA2.gone
      have hw : withL s.G [(k : Int)] = withI s.G (k : Int) := rfl
      rw [hw]
      clear hw
      have hA3 := hA2.gone_set hE (withI s.G (k : Int))
      have hT3 : Turn E.gb E.frb E.rb W (W2.setRow E.gb (setA (withI s.G (k : Int)))) := ((Turn.of_below hb1).trans (Turn.of_below (hbA.trans (hb2.mono hbA.size)))).trans (Turn.setRow1 _ _ _ _ _)
      obtain ⟨b, off, hAe, hbl, hok, hcs⟩ := hA3.rf.at_ hk
      have cF := (cell_of_row _ _ 1 _ _ _ hA3.func).trans (show #[E.P, .slice E.A E.bs.length E.c][1]? = some (.slice (some ⟨b, off, none⟩) E.bs.length E.c) by rw [hAe]; rfl)
      have e1 := hcs 1 (by decide)
      have e2 := hcs 2 (by decide)
      have e3 := hcs 3 (by decide)
      have e4 := hcs 4 (by decide)
      simp only [Blk.cell] at e1 e2 e3 e4
      rw [Nat.mul_comm 5 k] at e1 e2 e3 e4
      clear hcs
      go_wp2_with (refine wpList_store_row rfl _ _ _ rfl _ _ rfl rfl _ _ hg2 (szSetA _) (by rw [setA_size]; rfl) (oneCell_setA _) ?_)
      generalize hGG : withI s.G (k : Int) = G at *
      generalize W2.setRow E.gb (setA G) = W3 at *
      have hG : hasN s.G (k : Int) = false := hh
      have hkR : inR (k : Int) = true := (inR_iff _).2 ⟨by omega, by omega⟩
      have hcn : cntG G E.bs.length = cntG s.G E.bs.length + 1 := by
        rw [← hGG, cntG_with hkR hG _ (by omega), if_pos (by omega)]
      have hcl2 := cntG_le G E.bs.length
      refine (To_any (gB E.bs k).t W3 hok).mono ?_
      rintro e W4 ⟨v, rfl, ho, hnl, hb4⟩
      have hA4 := hA3.below hb4
      have hT4 := hT3.trans (Turn.of_below hb4)
      have hz3 := hT3.size
      have hLs : suB E.bs (k : Int) = toL (gB E.bs k).t := suB_of (bs := E.bs) (x := (k : Int)) ⟨by omega, by omega⟩
      have hLo : ∀ x ∈ toL (gB E.bs k).t, okB E.bs x := fun x hx => hcl.go (k : Int) ⟨by omega, by omega⟩ x (by rw [hLs]; exact hx)
      have hL64 := toL_i64 hok
      have hLl := toL_len (gB E.bs k).t
      have hLs' := Lib.hid hLs
      clear hLs hbA hb2 hb1 hb4 qH cF e1 e2 e3 e4 hAe hA1 hA2 hA hA3 hT3
      generalize toL (gB E.bs k).t = L at *
      obtain ⟨Lv, lc, rfl⟩ := own_form ho
      have hGG' := Lib.hid hGG
      clear hGG
      go_wp2
      go_loopw [24] (fun i wr => ∃ (m : Nat) (s1 : St), m ≤ L.length ∧ i = .int .i64 m ∧ Thr (suB E.bs) (L.take m) ⟨G, s.L⟩ s1 ∧ OAt E wr s1 ∧ Turn E.gb E.frb E.rb W wr ∧ cntG s1.G E.bs.length = s1.L.length + (d + 1) ∧ cntG G E.bs.length ≤ cntG s1.G E.bs.length ∧ wr.ownsRow W3.heap.size 3 1 (.slice Lv L.length lc) L.length (L.map (Value.int .i64))) (fun i _ => L.length - (intOf i).toNat)
      case atStart => exact ⟨0, _, Nat.zero_le _, rfl, .nil _, hA4, hT4, by simp only; omega, Nat.le_refl _, ho⟩
      case round =>
        obtain ⟨m, s1, hm, rfl, hth, hAm, hTm, hcm, hcm2, hom⟩ := hrel
        by_cases hml : m < L.length
        · obtain ⟨A', c', e', _, hRI⟩ := own_RI hom hL64 (by omega)
          cases e'
          obtain ⟨bL, oL, rfl, hbL, hcL, hxL⟩ := hRI.at_ hml
          obtain ⟨k2, hk2, hk2l⟩ : ∃ k2 : Nat, gI L m = (k2 : Int) ∧ k2 < E.bs.length := by
            obtain ⟨h1, h2⟩ := hLo _ (gI_mem hml)
            exact ⟨(gI L m).toNat, by omega, by omega⟩
          rw [hk2] at hcL
          have hd2 : decide ((m : Int) < (L.length : Int)) = true := decide_eq_true (by omega)
          have cT := (cell_of_row _ _ 0 _ _ _ hAm.lit).trans (show #[Value.func (.func 57) #[] E.cap][0]? = some (.func (.func 57) #[] #[.pointer (some ⟨E.gb, 0, none⟩), .pointer (some ⟨E.fb, 0, none⟩), .pointer (some ⟨E.tb, 0, none⟩), .pointer (some ⟨E.frb, 0, none⟩), .pointer (some ⟨E.ob, 0, none⟩)]) from rfl)
          have hk2' := Lib.hid hk2
          clear hk2
          go_wp2_with fail
          refine (ih s1 (d + 1) k2 wr hk2l hcm (by omega) hAm (Nat.lt_of_lt_of_le b1 hTm.size) (Nat.lt_of_lt_of_le b2 hTm.size) (Nat.lt_of_lt_of_le b3 hTm.size)).mono ?_
          rintro e W6 ⟨⟨v6, rfl⟩, s2, hth2, hA6, hT6, hc6⟩
          have ho6 := own_turn hom hT6 (by omega) (by omega) (by omega)
          have hth3 : Thr (suB E.bs) (L.take (m + 1)) ⟨G, s.L⟩ s2 := by
            rw [List.take_succ_eq_append_getElem hml, ← gI_eq hml, hk2'.out]
            exact hth.append hth2
          have hmono : cntG s1.G E.bs.length ≤ cntG s2.G E.bs.length := by
            obtain ⟨N, q1, _⟩ := Thr.adds hcl.go hcl.inR hth2 (fun x hx => by simp at hx; subst hx; exact ⟨by omega, by omega⟩)
            rw [hc6, hcm, q1]; simp
          have hTT := hTm.trans hT6
          clear hth hth2 hcm hT6 hTm
          go_wp2
          go_roundw
          case rel => exact ⟨m + 1, s2, by omega, by go_num, hth3, hA6, hTT, hc6, by omega, ho6⟩
          case measure => simp [intOf]; omega
        · obtain rfl : m = L.length := by omega
          have hd2 : decide ((L.length : Int) < (L.length : Int)) = false := by simp
          rw [List.take_length] at hth
          have hle2 := cntG_le s1.G E.bs.length
          have hlt : s1.L.length < E.bs.length := by omega
          obtain ⟨cs, r1, r2, r3⟩ := hAm.row
          obtain ⟨q, hq⟩ : ∃ q : Nat, E.bs.length - s1.L.length = q + 1 := ⟨E.bs.length - s1.L.length - 1, by omega⟩
          have hq1 : E.bs.length - s1.L.length - 1 = q := by omega
          have hput := hAm.put hE (k : Int) hlt
          have hTp := hTm.trans ((Turn.setCell2 E.gb E.frb E.rb wr 0 (.int .i64 ((E.bs.length - s1.L.length - 1 : Nat) : Int))).trans (Turn.setCell3 E.gb E.frb E.rb _ (E.bs.length - s1.L.length - 1) (.int .i64 (k : Int))))
          rw [hq1] at hput hTp
          have hfr := hAm.free
          rw [hq] at hfr
          have f1 : wr.cell? ⟨E.frb, 0, none⟩ = some (.int .i64 ((q : Int) + 1)) := by rw [cell_of_one hfr]; rfl
          have f2 := free_of_one hfr
          have hfr2 := blk_set (i := 0) (v := .int .i64 (q : Int)) hfr
          have f3 : (wr.setCell ⟨E.frb, 0, none⟩ (.int .i64 (q : Int))).cell? ⟨E.frb, 0, none⟩ = some (.int .i64 (q : Int)) := cell_of_one hfr2
          have f4 : (wr.setCell ⟨E.frb, 0, none⟩ (.int .i64 (q : Int))).cell? ⟨E.ob, 0, none⟩ = some (.slice (some ⟨E.rb, 0, none⟩) E.bs.length E.bs.length) := cell_of_one ((blk_far (p := ⟨E.frb, 0, none⟩) hE.h3.2.1).trans hAm.out)
          have r1' := (blk_far (w := wr) (p := ⟨E.frb, 0, none⟩) (v := .int .i64 (q : Int)) hE.h4.2.2.symm).trans r1
          have hcsq : ∃ u, cs[q]? = some u := ⟨cs[q]'(by omega), Array.getElem?_eq_getElem _⟩
          obtain ⟨u, hu⟩ := hcsq
          have f5 : (wr.setCell ⟨E.frb, 0, none⟩ (.int .i64 (q : Int))).cell? ⟨E.rb, q, none⟩ = some u := (cell_of_row _ _ _ _ _ _ r1').trans hu
          have f6 : (wr.setCell ⟨E.frb, 0, none⟩ (.int .i64 (q : Int))).frozen? ⟨E.rb, q, none⟩ = false := by unfold World.frozen?; rw [r1']; rfl
          have hqn : q < E.bs.length := by omega
          clear hfr hfr2 r1 r2 r3 r1' hu hAm hq1 hTm
          go_wp2
          go_end0
          refine ⟨⟨_, rfl⟩, ⟨s1.G, (k : Int) :: s1.L⟩, .go hh ?_ (.nil _), hput, hTp, by simp only [List.length_cons]; omega⟩
          rw [hLs'.out, hGG'.out]
          exact hth
    · rw [show (inR (k : Int) && s.G.testBit (k : Int).toNat) = true from hh] at qH
      go_enter Tryz.func57, Tryz.ntmps57
      go_wp2_with (refine wpList_load_row rfl _ _ rfl _ rfl _ _ _ _ hg Tryz.underlying70 rfl (szSetA _) ?_)
      refine qH.mono ?_
      rintro e W1 ⟨rfl, hb1⟩
      have hA1 := hA.below hb1
      go_wp2
      refine bodyPost_ret (results_none rfl _ _ _) rfl ?_
      exact ⟨⟨_, rfl⟩, s, .skip hh (.nil s), hA1, Turn.of_below hb1, hc⟩

/-- A row's end: what lies from off on. -/
structure TailRow (W : World) (rb off : Nat) (l : List Int) : Prop where
  row : ∃ cs : Array Value, W.heap[rb]? = some (.cells cs 3 (0, 0)) ∧ cs.size = off + l.length ∧ ∀ j, j < l.length → cs[off + j]? = some (.int .i64 (gI l j))
  rng : ∀ x ∈ l, I64 x
  len : l.length ≤ 1024
theorem TailRow.below {W W' : World} {rb off : Nat} {l : List Int} (h : TailRow W rb off l) (hb : Below W.heap.size W W') : TailRow W' rb off l := by
  obtain ⟨cs, h1, h2, h3⟩ := h.row
  exact ⟨⟨cs, blk_below hb h1 (blk_lt h1), h2, h3⟩, h.rng, h.len⟩
theorem TailRow.RI {W : World} {rb off : Nat} {l : List Int} (h : TailRow W rb off l) : RI W (some ⟨rb, off, none⟩) l := by
  obtain ⟨cs, h1, h2, h3⟩ := h.row
  refine ⟨by have := h.len; omega, fun i hi => h.rng _ (gI_mem hi), fun _ => ⟨rb, off, rfl, blk_lt h1, fun i hi => ?_⟩⟩
  rw [cell_of_row _ _ _ _ _ (0, 0) h1]
  exact h3 i hi

set_option maxRecDepth 100000 in
set_option maxHeartbeats 2000000 in
theorem Order_no (P : Value) (A : Option Addr) (c : Nat) (bs : List Blk) (w : World) (hr : RF w A bs) (hcl : closedB bs = false) :
    Calls Tryz.prog 22 #[.agg #[P, .slice A bs.length c]] w (Fresh w (.slice none 0 0)) := by
  have hb0 := (Below.refl w.heap.size w).alloc (Nat.le_refl _) (.cells #[P, .slice A bs.length c] 25)
  have hs := blk_new w (.cells #[P, .slice A bs.length c] 25)
  have q := fun W hW => Closed_any P A c bs W (hr.below (w' := W) hW)
  rw [hcl] at q
  go_enter Tryz.func22, Tryz.ntmps22
  go_wp2_with (refine wpList_load_row rfl _ _ rfl _ rfl _ _ _ _ hs Tryz.underlying25 rfl (by kernel_rfl) ?_)
  refine (q _ hb0).mono ?_
  rintro e W1 ⟨rfl, hb1⟩
  go_wp2
  go_ret
  exact ⟨rfl, hb0.trans (hb1.mono hb0.size)⟩

set_option maxRecDepth 100000 in
set_option maxHeartbeats 2000000 in
theorem Order_yes (P : Value) (A : Option Addr) (c : Nat) (bs : List Blk) (w : World) (hr : RF w A bs) (hcl : closedB bs = true) :
    Calls Tryz.prog 22 #[.agg #[P, .slice A bs.length c]] w fun e w' => ∃ (l : List Int) (rb off : Nat), OrderIs bs l ∧ e = .returned (.slice (some ⟨rb, off, none⟩) l.length l.length) ∧ TailRow w' rb off l ∧ w.heap.size ≤ rb ∧ Below w.heap.size w w' := by
  have hc := closed_cl hr.ok hcl
  have hle := hc.le
  have hpos := hc.pos
  have hb0 := (Below.refl w.heap.size w).alloc (Nat.le_refl _) (.cells #[P, .slice A bs.length c] 25)
  have hs := blk_new w (.cells #[P, .slice A bs.length c] 25)
  have q := fun W hW => Closed_any P A c bs W (hr.below (w' := W) hW)
  rw [hcl] at q
  obtain ⟨i0, hi, hz0, hz1, hz2⟩ := info_parts infoInt
  go_enter Tryz.func22, Tryz.ntmps22
  go_wp2_with (refine wpList_load_row rfl _ _ rfl _ rfl _ _ _ _ hs Tryz.underlying25 rfl (by kernel_rfl) ?_)
  refine (q _ hb0).mono ?_
  rintro e W1 ⟨rfl, hb1⟩
  have hb2 := hb0.trans (hb1.mono hb0.size)
  have hs1 := blk_below hb1 hs (blk_lt hs)
  have hZ := blk_new W1 (.cells (setA 0) 70)
  have hBz := hb2.alloc hb2.size (.cells (setA 0) 70)
  have hsz := (blk_old W1 (.cells (setA 0) 70) (blk_lt hs1)).trans hs1
  have c1 := (cell_of_row _ _ 1 _ _ _ hsz).trans (show #[P, .slice A bs.length c][1]? = some (.slice A bs.length c) from rfl)
  have hzz : Below W1.heap.size W1 (W1.alloc (.cells (setA 0) 70)) := (Below.refl _ _).alloc (Nat.le_refl _) _
  have hsi : (W1.alloc (.cells (setA 0) 70)).heap.size = W1.heap.size + 1 := by simp
  rw [setA_zero] at hZ hBz hsz c1 hzz hsi
  go_wp2_with (refine wpList_make_full _ rfl _ _ 22 rfl w.heap.size 3 i0 (.int .i64 0) 1 Tryz.underlying22 hi hz0 hz1 _ _ _ _ bs.length rfl rfl rfl rfl (by rw [hz2]; omega) (by unfold maxLen; omega) hBz.size ?_; intro W2 hown hgr)
  have hown' : W2.ownsRow w.heap.size 3 1 (.slice (some ⟨W1.heap.size + 1, 0, none⟩) bs.length bs.length) bs.length (madeCells (Value.int .i64 0).cells (bs.length * 1)).toList := by
    rw [← hsi]; exact hown
  clear hown
  obtain ⟨cs, hrow, hcsz⟩ : ∃ cs, W2.heap[W1.heap.size + 1]? = some (.cells cs 3 (0, 0)) ∧ cs.size = bs.length := by
    rcases hown'.2 with ⟨h, _⟩ | ⟨g, cap, cur, h, _, h2, _, _, h3, _⟩
    · cases h
    · cases h; exact ⟨cur, h2, by simpa using h3⟩
  have hrl := blk_lt hrow
  have hB2 := hBz.grown hgr hBz.size (fun k e => by cases e)
  have hz2 : W1.heap.size + 1 ≤ W2.heap.size := by omega
  have hg2 : W2.heap[W1.heap.size]? = some (.cells (setA 0) 70 (0, 0)) := by
    rw [setA_zero]; exact (hgr.block _ (by omega) (by simp)).trans hZ
  have hf2 : W2.heap[w.heap.size]? = some (.cells #[P, .slice A bs.length c] 25 (0, 0)) := (hgr.block _ (blk_lt hsz) (by simp)).trans hsz
  have hwlt := blk_lt hs1
  have hAT : OAt ⟨W1.heap.size, w.heap.size, W2.heap.size + 1 + 1, W2.heap.size + 1, W2.heap.size, W1.heap.size + 1, P, A, c, bs⟩ (((W2.alloc (.cells #[.slice (some ⟨W1.heap.size + 1, 0, none⟩) bs.length bs.length] 22)).alloc (.cells #[.int .i64 (bs.length : Int)] 3)).alloc
      (.cells #[.func (.func 57) #[] #[.pointer (some ⟨W1.heap.size, 0, none⟩), .pointer (some ⟨w.heap.size, 0, none⟩), .pointer (some ⟨W2.heap.size + 1 + 1, 0, none⟩), .pointer (some ⟨W2.heap.size + 1, 0, none⟩), .pointer (some ⟨W2.heap.size, 0, none⟩)]] 71)) ⟨0, []⟩ := by
    have hbb : Below W2.heap.size W2 (((W2.alloc (.cells #[.slice (some ⟨W1.heap.size + 1, 0, none⟩) bs.length bs.length] 22)).alloc (.cells #[.int .i64 (bs.length : Int)] 3)).alloc
      (.cells #[.func (.func 57) #[] #[.pointer (some ⟨W1.heap.size, 0, none⟩), .pointer (some ⟨w.heap.size, 0, none⟩), .pointer (some ⟨W2.heap.size + 1 + 1, 0, none⟩), .pointer (some ⟨W2.heap.size + 1, 0, none⟩), .pointer (some ⟨W2.heap.size, 0, none⟩)]] 71)) := (((Below.refl _ _).alloc (Nat.le_refl _) _).alloc (by simp) _).alloc (by simp; omega) _
    refine ⟨blk_below hbb hg2 (blk_lt hg2), blk_below hbb hf2 (blk_lt hf2), ?_, ?_, ?_, ⟨cs, blk_below hbb hrow hrl, hcsz, fun j hj => absurd hj (Nat.not_lt_zero _)⟩, hr.below (hB2.trans (hbb.mono hB2.size)), fun b off e => ?_⟩
    · have := blk_new ((W2.alloc (.cells #[.slice (some ⟨W1.heap.size + 1, 0, none⟩) bs.length bs.length] 22)).alloc (.cells #[.int .i64 (bs.length : Int)] 3)) (.cells #[.func (.func 57) #[] #[.pointer (some ⟨W1.heap.size, 0, none⟩), .pointer (some ⟨w.heap.size, 0, none⟩), .pointer (some ⟨W2.heap.size + 1 + 1, 0, none⟩), .pointer (some ⟨W2.heap.size + 1, 0, none⟩), .pointer (some ⟨W2.heap.size, 0, none⟩)]] 71)
      rw [World.size_alloc, World.size_alloc] at this
      exact this
    · have := blk_new (W2.alloc (.cells #[.slice (some ⟨W1.heap.size + 1, 0, none⟩) bs.length bs.length] 22)) (.cells #[.int .i64 (bs.length : Int)] 3)
      rw [World.size_alloc] at this
      exact (blk_old _ _ (by simp)).trans this
    · exact (blk_old _ _ (by simp; omega)).trans ((blk_old _ _ (by simp)).trans (blk_new W2 _))
    · obtain ⟨b', off', e', hlt, _⟩ := hr.rd (by omega)
      simp only at e
      rw [e] at e'
      cases e'
      exact ⟨by simp only; omega, by simp only; omega, by simp only; omega⟩
  have hne : OEnv.ne ⟨W1.heap.size, w.heap.size, W2.heap.size + 1 + 1, W2.heap.size + 1, W2.heap.size, W1.heap.size + 1, P, A, c, bs⟩ := ⟨⟨by simp only; omega, by simp only; omega, by simp only; omega⟩, ⟨by simp only; omega, by simp only; omega, by simp only; omega⟩, ⟨by simp only; omega, by simp only; omega, by simp only; omega⟩, ⟨by simp only; omega, by simp only; omega, by simp only; omega⟩⟩
  refine (through_any _ hne hc (bs.length + 1) ⟨0, []⟩ 0 0 _ hpos (cntG_zero _) (by simp only; omega) hAT (by simp; omega) (by simp) (by simp; omega)).mono ?_
  rintro e W5 ⟨⟨v5, rfl⟩, s5, hth, hA5, hT5, hc5⟩
  have hB5 : Below w.heap.size w W5 := ((((hB2.alloc hB2.size _).alloc (by have := hB2.size; simp; omega) _).alloc (by have := hB2.size; simp; omega) _)).trans (hT5.below (by have := hB2.size; simp; omega) (by simp only; omega) (by simp only; omega) (by simp only; omega))
  clear hT5 hAT hown' hgr hb0 hb1 hb2 hs hs1 hsz c1 hzz hsi hZ hBz hB2 hg2 hf2 hrow hrl q
  obtain ⟨⟨Y, hY⟩, _, _, _, hL5⟩ := Thr.whole hc.go hc.inR (b0 := 0) ⟨by omega, by omega⟩ hth
  have hL1 : 0 < s5.L.length := by rw [hY]; simp
  have hcle := cntG_le s5.G bs.length
  have hL2 : s5.L.length ≤ bs.length := by simp only at hc5; omega
  obtain ⟨k, hk⟩ : ∃ k, bs.length - s5.L.length = k := ⟨_, rfl⟩
  have c5 := cell_of_one hA5.out
  have c6 := cell_of_one hA5.free
  simp only at c5 c6
  rw [hk] at c6
  have hkn : k < bs.length := by omega
  have hkc : ¬ (bs.length = k) := by omega
  have hL := Lib.hid hk
  obtain ⟨cs5, r1, r2, r3⟩ := hA5.row
  simp only at r1 r2 r3
  rw [hk] at r3
  have hln : bs.length - k = s5.L.length := by omega
  have hln' := Lib.hid hln
  have hk2 : k + s5.L.length = bs.length := by omega
  have hk3 := Lib.hid hk2
  clear hA5 hk hc5 hY hln hk2
  go_wp2
  go_ret
  refine ⟨s5.L, W1.heap.size + 1, k, ⟨s5, hth, rfl⟩, ?_, ⟨⟨cs5, r1, r2.trans hk3.out.symm, r3⟩, fun x hx => ?_, by omega⟩, by omega, hB5⟩
  · show Ending.returned (.slice (some ⟨W1.heap.size + 1, k, none⟩) (bs.length - k) (bs.length - k)) = _
    rw [hln'.out]
  · obtain ⟨h1, h2⟩ := hL5 x hx
    exact ⟨by omega, by omega⟩

end Go.Proofs.YtjichaeegheacaaGreatDoor
