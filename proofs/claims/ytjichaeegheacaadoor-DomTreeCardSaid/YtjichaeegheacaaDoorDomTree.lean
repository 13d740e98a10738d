/-
  Law 11, DomTree: the walk.
-/
import Derived.Test.YtjichaeegheacaaDoorAwake11
import Derived.Test.YtjichaeegheacaaDoorCount
namespace Go.Proofs.YtjichaeegheacaaDoor
open Go Go.RowKit

theorem has11_fresh (A : Option Addr) (c : Nat) (xs : List Int) (n : Int) (w : World) (hr : RI w A xs) :
    Calls Tryd.prog 33 #[.slice A xs.length c, .int .i64 n] w (Fresh w (.bool (xs.contains n))) := (has11_any A c xs n w hr).mono fun _ _ h => ⟨h.1, by rw [h.2]; exact Below.refl _ _⟩
theorem nodup_len : ∀ (n : Nat) (l : List Int), l.Nodup → (∀ x ∈ l, 0 ≤ x ∧ x < (n : Int)) → l.length ≤ n := by
  intro n
  induction n with
  | zero =>
    intro l _ hl
    cases l with
    | nil => simp
    | cons x l => have := hl x (by simp); omega
  | succ n ih =>
    intro l hn hl
    have h6 := ih (l.filter (fun x => !decide (x = (n : Int)))) (List.Pairwise.filter _ hn) (fun x hx => by
      rw [List.mem_filter] at hx
      have := hl x hx.1
      have h7 : ¬ x = (n : Int) := by simpa using hx.2
      omega)
    have h8 : l.length ≤ (l.filter (fun x => !decide (x = (n : Int)))).length + 1 := by
      clear ih h6 hl
      induction l with
      | nil => simp
      | cons x l ih =>
        rw [List.nodup_cons] at hn
        by_cases e : x = (n : Int)
        · subst e
          have : l.filter (fun x => !decide (x = (n : Int))) = l := List.filter_eq_self.2 fun y hy => by
            have : ¬ y = (n : Int) := fun q => hn.1 (q ▸ hy)
            simp [this]
          rw [List.filter_cons, this]
          simp
        · have := ih hn.2
          simp only [List.filter_cons, decide_eq_false e, Bool.not_false, if_true, List.length_cons]
          omega
    omega
/-- How far the law's own loop has come up a chain. -/
def Climb (l : List Int) (T : PTree) (k b : Int) (ov : Bool) (at_ : Int) (nn : Nat) : Prop :=
  ∃ pre : List Int, nn = pre.length ∧ ov = decide (k ∈ pre) ∧ (b ∈ l → (∃ i, i < l.length ∧ at_ = gI l i ∧ pre ++ (chT T i).map (gI l) = chI l T b) ∨ (at_ = -1 ∧ pre = chI l T b)) ∧ (b ∉ l → pre = [] ∧ at_ = b)
theorem climb_next {l : List Int} {T : PTree} (hT : WfT T) {k b : Int} {ov : Bool} {nn i : Nat} {pre : List Int} (hb : b ∈ l) (hov : ov = decide (k ∈ pre)) (hnn : nn = pre.length) (hi : i < l.length) (hpre : pre ++ (chT T i).map (gI l) = chI l T b) :
    Climb l T k b (ov || (gI l i == k)) (upI l T i) (nn + 1) := by
  refine ⟨pre ++ [gI l i], by simp [hnn], ?_, fun _ => ?_, fun q => absurd hb q⟩
  · rw [hov]
    by_cases e : gI l i = k
    · subst e; simp
    · have e2 : ¬ k = gI l i := fun q => e q.symm
      simp [e, e2]
  · rw [chT_eq hT, List.map_cons] at hpre
    unfold upI
    cases hq : T i with
    | none =>
      rw [hq] at hpre
      exact .inr ⟨rfl, hpre⟩
    | some j =>
      rw [hq] at hpre
      have := hT.lt _ _ hq
      exact .inl ⟨j, by omega, rfl, by rw [List.append_assoc]; exact hpre⟩
theorem up_less {l : List Int} {T : PTree} (hn : l.Nodup) (h0 : ∀ x ∈ l, 0 ≤ x) (hT : WfT T) {i : Nat} (hi : i < l.length) : (placeI l (upI l T i) + 1).toNat < (placeI l (gI l i) + 1).toNat := by
  rw [place_gI hn hi]
  unfold upI
  cases hq : T i with
  | none =>
    have : placeI l (-1) = -1 := placeI_none (by
      cases hc : l.contains (-1) with
      | false => rfl
      | true =>
        have := h0 _ (List.contains_iff_mem.1 hc)
        omega)
    simp only
    rw [this]; omega
  | some j =>
    have := hT.lt _ _ hq
    simp only
    rw [place_gI hn (by omega)]
    omega
theorem i64_zero : ∀ x ∈ ([0] : List Int), I64 x := by intro x hx; simp at hx; subst hx; exact ⟨by decide, by decide⟩

set_option maxRecDepth 100000 in
set_option maxHeartbeats 8000000 in
theorem DomTree_any (P : Value) (A : Option Addr) (c : Nat) (bs : List Blk) (w : World) (hF : Fn w P A bs) (hT : Tab w) :
    Calls Tryd.prog 7 #[.agg #[P, .slice A bs.length c]] w (Fresh w (.bool true)) := by
  have hb0 := (Below.refl w.heap.size w).alloc (Nat.le_refl _) (.cells #[P, .slice A bs.length c] 38)
  have hs := blk_new w (.cells #[P, .slice A bs.length c] 38)
  go_enter Tryd.func7, Tryd.ntmps7
  go_wp2_with fail
  refine (awake11_any _).mono ?_
  rintro e W1 ⟨rfl, hb1⟩
  have hs1 := blk_below hb1 hs (blk_lt hs)
  have hB1 := hb0.trans (hb1.mono hb0.size)
  clear hb1 hb0 hs
  go_wp2_with (refine wpList_load_row rfl _ _ rfl _ rfl _ _ _ _ hs1 Tryd.underlying38 rfl (by kernel_rfl) ?_)
  refine (FuncOf_any P A c bs 120 W1 (hF.below hB1) (by omega) (by omega)).mono ?_
  rintro e W2 ⟨n, rfl, n0, n1, hb2⟩
  have hs2 := blk_below hb2 hs1 (blk_lt hs1)
  have hB2 := hB1.trans (hb2.mono hB1.size)
  clear hb2 hs1
  have hout : ∀ W, Below w.heap.size w W → W.heap[w.heap.size]? = some (.cells #[P, .slice A bs.length c] 38 (0, 0)) → True := fun _ _ _ => trivial
  clear hout
  by_cases hbig : n > 120
  · have hd : decide (n > 120) = true := decide_eq_true hbig
    cases hcl : closedB bs
    · go_wp2_with (refine wpList_load_row rfl _ _ rfl _ rfl _ _ _ _ hs2 Tryd.underlying38 rfl (by kernel_rfl) ?_)
      refine (DomOf_no P A c bs W2 (hF.rf.below hB2) hcl).mono ?_
      rintro e W3 ⟨rfl, hb3⟩
      go_wp2
      go_ret
      exact ⟨rfl, hB2.trans (hb3.mono hB2.size)⟩
    · have hc := closed_cl hF.rf.ok hcl
      have hpos := hc.pos
      go_wp2_with (refine wpList_load_row rfl _ _ rfl _ rfl _ _ _ _ hs2 Tryd.underlying38 rfl (by kernel_rfl) ?_)
      refine (DomOf_any P A c bs W2 (hF.rf.below hB2) hcl).mono ?_
      rintro e W3 ⟨bu, l, T, rfl, ho, hu, hTr, hD, hb3⟩
      have hs3 := blk_below hb3 hs2 (blk_lt hs2)
      have hB3 := hB2.trans (hb3.mono hB2.size)
      have q := Closed_any P A c bs W3 (hF.rf.below hB3)
      rw [hcl] at q
      rw [uOf_len]
      have hd2 : ((bs.length : Int) == 0) = false := by rw [beq_eq_false_iff_ne]; omega
      clear ho hu hTr hD
      go_wp2_with (refine wpList_load_rowG rfl _ _ rfl _ rfl _ _ _ _ hs3 Tryd.underlying38 rfl (by kernel_rfl) ?_)
      refine q.mono ?_
      rintro e W4 ⟨rfl, hb4⟩
      go_wp2
      go_ret
      exact ⟨rfl, hB3.trans (hb4.mono hB3.size)⟩
  · have hd : decide (n > 120) = false := decide_eq_false hbig
    have q := Closed_any P A c bs W2 (hF.rf.below hB2)
    cases hcl : closedB bs
    · rw [hcl] at q
      go_wp2_with (refine wpList_load_rowG rfl _ _ rfl _ rfl _ _ _ _ hs2 Tryd.underlying38 rfl (by kernel_rfl) ?_)
      refine q.mono ?_
      rintro e W3 ⟨rfl, hb3⟩
      have hs3 := blk_below hb3 hs2 (blk_lt hs2)
      have hB3 := hB2.trans (hb3.mono hB2.size)
      go_wp2_with (refine wpList_load_row rfl _ _ rfl _ rfl _ _ _ _ hs3 Tryd.underlying38 rfl (by kernel_rfl) ?_)
      refine (DomOf_no P A c bs W3 (hF.rf.below hB3) hcl).mono ?_
      rintro e W4 ⟨rfl, hb4⟩
      go_wp2
      go_ret
      exact ⟨rfl, hB3.trans (hb4.mono hB3.size)⟩
    · have hc := closed_cl hF.rf.ok hcl
      have hpos := hc.pos
      have hle := hc.le
      rw [hcl] at q
      go_wp2_with (refine wpList_load_rowG rfl _ _ rfl _ rfl _ _ _ _ hs2 Tryd.underlying38 rfl (by kernel_rfl) ?_)
      refine q.mono ?_
      rintro e W3 ⟨rfl, hb3⟩
      have hs3 := blk_below hb3 hs2 (blk_lt hs2)
      have hB3 := hB2.trans (hb3.mono hB2.size)
      clear q hb3 hs2
      go_wp2_with (refine wpList_load_row rfl _ _ rfl _ rfl _ _ _ _ hs3 Tryd.underlying38 rfl (by kernel_rfl) ?_)
      refine (DomOf_any P A c bs W3 (hF.rf.below hB3) hcl).mono ?_
      rintro e W4 ⟨bu, l, T, rfl, _, hu, hTr, hD, hb4⟩
      have hs4 := blk_below hb4 hs3 (blk_lt hs3)
      have hB4 := hB3.trans (hb4.mono hB3.size)
      clear hb4 hs3
      go_wp2_with (refine wpList_load_row rfl _ _ rfl _ rfl _ _ _ _ hs4 Tryd.underlying38 rfl (by kernel_rfl) ?_)
      have hbA := (Below.refl W4.heap.size W4).alloc (Nat.le_refl _) (.cells #[.int .i64 0] 3)
      have hB4' := hB4.trans (hbA.mono hB4.size)
      refine (Reached_yes P A (some ⟨W4.heap.size, 0, none⟩) none c 1 0 bs [0] [] _ (hT.below hB4') (hF.rf.below hB4') (RI_lit (blk_new W4 _) i64_zero (by decide)) (RI.nil _ _) hcl).mono ?_
      rintro e W5 ⟨R, hR, v5, rfl, ho5, hn5, hb5⟩
      have hb5' := hbA.trans (hb5.mono hbA.size)
      have hs5 := blk_below hb5' hs4 (blk_lt hs4)
      have hB5 := hB4.trans (hb5'.mono hB4.size)
      have hu5 := hu.below hb5'
      have hr64 := upTo_i64 (N := R) (Nat.le_refl 1024)
      have hrlen := upTo_len R 1024
      have hmem := fun x => (hR.mem hc x).trans (Rt.way (n := bs.length) (b0 := 0) (by omega) (by omega))
      obtain ⟨on, o0, opos, oway, ook⟩ := order_facts hc hD.ord
      have hml : ∀ x, x ∈ upTo R 1024 ↔ x ∈ l := fun x => (hmem x).trans (oway x).symm
      clear hb5 hb5' hbA hB4' hs4 hn5 hR hu hmem
      obtain ⟨al, hal⟩ : ∃ al, upTo R 1024 = al := ⟨_, rfl⟩
      rw [hal] at ho5 hr64 hrlen hml
      clear hal
      obtain ⟨A5, c5, rfl, hc5, hal5⟩ := own_RI ho5 hr64 (by omega)
      clear ho5
      have hU0 : gI (uOf l bs.length T) 0 = -1 := by
        have := (hTr.upk opos (k := 0) o0).1
        rw [this]; unfold upI; rw [hD.wf.root]
      obtain ⟨_, _, e5, hbu5, hcu5, _⟩ := hu5.at_ (k := 0) (by rw [uOf_len]; omega)
      cases e5
      rw [hU0, Nat.add_zero] at hcu5
      have f1 : W5.cell? ⟨w.heap.size, 1, none⟩ = some (.slice A bs.length c) := (cell_of_row _ _ _ _ _ _ hs5).trans rfl
      have hul := uOf_len l bs.length T
      rw [hul]
      have hdne : ((bs.length : Int) != (bs.length : Int)) = false := by simp
      go_wp2
      change Code.wp _ _ _ (Act.mk _ _) _
      go_loopw [5] (fun i wr => ∃ k : Nat, k ≤ bs.length ∧ i = .int .i64 k ∧ Below w.heap.size w wr ∧ wr.heap[w.heap.size]? = some (.cells #[P, .slice A bs.length c] 38 (0, 0)) ∧ RI wr (some ⟨bu, 0, none⟩) (uOf l bs.length T) ∧ RI wr A5 al) (fun i _ => bs.length - (intOf i).toNat)
      case atStart => exact ⟨0, Nat.zero_le _, rfl, hB5, hs5, hu5, hal5⟩
      case round =>
        clear hB5 hs5 hu5 hal5 hcu5 f1 hbu5 hB4
        obtain ⟨k, hk, rfl, hB6, hs6, hu6, hal6⟩ := hrel
        by_cases hkl : k < bs.length
        · have hd6 : decide ((k : Int) < (bs.length : Int)) = true := decide_eq_true (by omega)
          have hbA := (Below.refl wr.heap.size wr).alloc (Nat.le_refl _) (.cells #[.int .i64 0] 3)
          have hbB := hbA.alloc (by simp) (.cells #[.int .i64 (k : Int)] 3)
          have hBB := hB6.trans (hbB.mono hB6.size)
          have hl0 := (blk_old (wr.alloc (.cells #[.int .i64 0] 3)) (.cells #[.int .i64 (k : Int)] 3) (by simp)).trans (blk_new wr (.cells #[.int .i64 0] 3))
          have hlk := blk_new (wr.alloc (.cells #[.int .i64 0] 3)) (.cells #[.int .i64 (k : Int)] 3)
          rw [World.size_alloc] at hlk
          have hki : ∀ x ∈ ([(k : Int)] : List Int), I64 x := by intro x hx; simp at hx; subst hx; exact ⟨by omega, by omega⟩
          go_wp2_with (refine wpList_load_row rfl _ _ rfl _ rfl _ _ _ _ hs6 Tryd.underlying38 rfl (by kernel_rfl) ?_)
          refine (Reached_yes P A (some ⟨wr.heap.size, 0, none⟩) (some ⟨wr.heap.size + 1, 0, none⟩) c 1 1 bs [0] [(k : Int)] _ (hT.below hBB) (hF.rf.below hBB) (RI_lit hl0 i64_zero (by decide)) (RI_lit hlk hki (by simp)) hcl).mono ?_
          rintro e W7 ⟨R, hR, v7, rfl, ho7, hn7, hb7⟩
          have hb7' := hbB.trans (hb7.mono hbB.size)
          have hs7 := blk_below hb7' hs6 (blk_lt hs6)
          have hB7 := hB6.trans (hb7'.mono hB6.size)
          have hu7 := hu6.below hb7'
          have hal7 := hal6.below hb7'
          have hr64' := upTo_i64 (N := R) (Nat.le_refl 1024)
          have hrlen' := upTo_len R 1024
          have hml' := fun x => hR.mem hc x
          clear hb7 hb7' hbA hbB hBB hl0 hlk hn7 hR hs6 hB6 hu6 hal6
          obtain ⟨ll, hll⟩ : ∃ ll, upTo R 1024 = ll := ⟨_, rfl⟩
          rw [hll] at ho7 hr64' hrlen' hml'
          clear hll
          obtain ⟨A7, c7, rfl, hc7, hll7⟩ := own_RI ho7 hr64' (by omega)
          clear ho7
          go_wp2
          obtain ⟨w7, rfl⟩ : ∃ w7 : World, w7 = W7 := ⟨_, rfl⟩
          change Code.wp _ _ _ (Act.mk _ _) _
          go_loopw [7] (fun i wq => ∃ b : Nat, b ≤ bs.length ∧ i = .int .i64 b ∧ Below w.heap.size w wq ∧ wq.heap[w.heap.size]? = some (.cells #[P, .slice A bs.length c] 38 (0, 0)) ∧ RI wq (some ⟨bu, 0, none⟩) (uOf l bs.length T) ∧ RI wq A5 al ∧ RI wq A7 ll) (fun i _ => bs.length - (intOf i).toNat)
          case atStart => exact ⟨0, Nat.zero_le _, rfl, hB7, hs7, hu7, hal7, hll7⟩
          case round =>
            clear hB7 hs7 hu7 hal7 hll7
            obtain ⟨b, hb, rfl, hB8, hs8, hu8, hal8, hll8⟩ := hrel
            by_cases hbl : b < bs.length
            · have hd8 : decide ((b : Int) < (bs.length : Int)) = true := decide_eq_true (by omega)
              have hbi : I64 (b : Int) := ⟨by omega, by omega⟩
              have hlen := nodup_len bs.length l on ook
              have hCl : (b : Int) ∈ l → (chI l T b).length ≤ bs.length := fun h => by
                obtain ⟨i, hi, _, e⟩ := mem_place h
                unfold chI
                rw [if_pos h, e, List.length_map]
                have := chT_len hD.wf i
                rw [show ((i : Int)).toNat = i by omega]
                omega
              have h0c : Climb l T k b false b 0 := ⟨[], rfl, by simp, fun h => by
                obtain ⟨i, hi, e1, e2⟩ := mem_place h
                refine .inl ⟨i, hi, e1.symm, ?_⟩
                unfold chI
                rw [if_pos h, e2]; rfl, fun _ => ⟨rfl, rfl⟩⟩
              go_wp2
              obtain ⟨w8, rfl⟩ : ∃ w8 : World, w8 = wr := ⟨_, rfl⟩
              change Code.wp _ _ _ (Act.mk _ _) _
              go_loopw [8, 9, 10] (fun v8 v9 v10 wz => ∃ (ov : Bool) (at_ : Int) (nn : Nat), v8 = .bool ov ∧ v9 = .int .i64 at_ ∧ v10 = .int .i64 nn ∧ Climb l T k b ov at_ nn ∧ wz = w8) (fun _ v9 _ _ => (placeI l (intOf v9) + 1).toNat)
              case atStart => exact ⟨false, b, 0, rfl, rfl, rfl, h0c, rfl⟩
              case round =>
                clear h0c
                obtain ⟨ov, at_, nn, rfl, rfl, rfl, hcl2, rfl⟩ := hrel
                obtain ⟨pre, hnn, hov, hin, hno⟩ := hcl2
                have hhas := has11_any A5 c5 al (b : Int) wr hal8
                by_cases hbl2 : (b : Int) ∈ l
                · have hab : al.contains (b : Int) = true := List.contains_iff_mem.2 ((hml b).2 hbl2)
                  rw [hab] at hhas
                  clear hno hab
                  rcases hin hbl2 with ⟨i, hi, rfl, hpre⟩ | ⟨rfl, hpre⟩
                  · have hcn := climb_next hD.wf (k := (k : Int)) hbl2 hov hnn hi hpre
                    have hms := up_less on (fun x hx => (ook x hx).1) hD.wf hi
                    have hnle : nn ≤ bs.length := by
                      have h1 := congrArg List.length hpre
                      have h2 := hCl hbl2
                      rw [List.length_append] at h1
                      omega
                    have hdle : decide ((nn : Int) ≤ (bs.length : Int)) = true := decide_eq_true (by omega)
                    obtain ⟨kk, ek, hkk⟩ := hTr.nat hi
                    have hup := (hTr.upk hi ek).1
                    obtain ⟨_, _, e9, _, hcu, _⟩ := hu8.at_ (k := kk) (by rw [hul]; exact hkk)
                    cases e9
                    rw [hup, Nat.zero_add] at hcu
                    have hcn' := Lib.hid hcn
                    have hms' := Lib.hid hms
                    have ek' := Lib.hid ek
                    clear hup hin hpre hov hnn hcn hms
                    rw [ek]
                    clear ek
                    have hge : decide ((kk : Int) ≥ 0) = true := decide_eq_true (by omega)
                    go_wp2_with fail
                    refine hhas.mono ?_
                    clear hhas
                    rintro e W9 ⟨rfl, rfl⟩
                    generalize hux : upI l T i = ux at *
                    cases ov
                    · by_cases hak : kk = k
                      · have hq : ((kk : Int) == (k : Int)) = true := by simp [hak]
                        have hcq : Climb l T k b true ux (nn + 1) := by
                          have := hcn'.out
                          rw [ek'.out, hq] at this
                          exact this
                        have hcq' := Lib.hid hcq
                        clear hak hcq
                        go_wp2
                        go_roundw
                        case rel => exact ⟨true, ux, nn + 1, rfl, rfl, by go_num, hcq'.out, by trivial⟩
                        case measure => rw [← ek'.out]; exact hms'.out
                      · have hq : ((kk : Int) == (k : Int)) = false := by rw [beq_eq_false_iff_ne]; omega
                        have hcq : Climb l T k b false ux (nn + 1) := by
                          have := hcn'.out
                          rw [ek'.out, hq] at this
                          exact this
                        have hcq' := Lib.hid hcq
                        clear hak hcq
                        go_wp2
                        go_roundw
                        case rel => exact ⟨false, ux, nn + 1, rfl, rfl, by go_num, hcq'.out, by trivial⟩
                        case measure => rw [← ek'.out]; exact hms'.out
                    · go_wp2
                      go_roundw
                      case rel => exact ⟨true, ux, nn + 1, rfl, rfl, by go_num, hcn'.out, by trivial⟩
                      case measure => rw [← ek'.out]; exact hms'.out
                  · have hnle : nn ≤ bs.length := by
                      have h2 := hCl hbl2
                      rw [← hpre] at h2
                      omega
                    have hdle : decide ((nn : Int) ≤ (bs.length : Int)) = true := decide_eq_true (by omega)
                    have hge : decide ((-1 : Int) ≥ 0) = false := by decide
                    rw [hpre] at hov
                    have hdom : ov = true ↔ DomP bs (k : Int) (b : Int) := by rw [hov, decide_eq_true_iff]; exact dom_law hc hD k b
                    have hak := hml (k : Int)
                    have hwb := (oway (b : Int)).1 hbl2
                    have hwk := oway (k : Int)
                    have hlb := hml' (b : Int)
                    have hov2 : ov = (al.contains (k : Int) && !ll.contains (b : Int)) := by
                      have e1 : (al.contains (k : Int) && !ll.contains (b : Int)) = true ↔ DomP bs (k : Int) (b : Int) := by
                        rw [Bool.and_eq_true, List.contains_iff_mem, hak, hwk, Bool.not_eq_true', ← Bool.not_eq_true, List.contains_iff_mem, hlb]
                        exact ⟨fun ⟨q1, q2⟩ => ⟨hwb, q1, q2⟩, fun ⟨_, q1, q2⟩ => ⟨q1, q2⟩⟩
                      cases h1 : ov <;> cases h2 : (al.contains (k : Int) && !ll.contains (b : Int))
                      · rfl
                      · exact absurd (hdom.2 (e1.1 h2)) (by rw [h1]; simp)
                      · exact absurd (e1.2 (hdom.1 h1)) (by rw [h2]; simp)
                      · rfl
                    have hasb := fun W (h : Below wr.heap.size wr W) => has11_any A5 c5 al (b : Int) W (hal8.below h)
                    have hask := fun W (h : Below wr.heap.size wr W) => has11_any A5 c5 al (k : Int) W (hal8.below h)
                    have hasl := fun W (h : Below wr.heap.size wr W) => has11_any A7 c7 ll (b : Int) W (hll8.below h)
                    rw [show al.contains (b : Int) = true from List.contains_iff_mem.2 ((hml b).2 hbl2)] at hasb
                    have hOv := Over_any P A c bs (k : Int) (b : Int) hbi wr (hF.rf.below hB8) hcl
                    have d0 : wr.cell? ⟨w.heap.size, 0, none⟩ = some P := (cell_of_row _ _ _ _ _ _ hs8).trans rfl
                    have d1 : wr.cell? ⟨w.heap.size, 1, none⟩ = some (.slice A bs.length c) := (cell_of_row _ _ _ _ _ _ hs8).trans rfl
                    clear hin hov hak hwb hwk hlb hpre hnn hhas
                    generalize al.contains (k : Int) = ha at *
                    generalize ll.contains (b : Int) = hl at *
                    subst hov2
                    cases ha
                    · rw [Bool.false_and] at hdom ⊢
                      go_wp2_with fail
                      refine (hasb _ (Below.refl _ _)).mono ?_
                      rintro e W9 ⟨rfl, rfl⟩
                      go_wp2_with fail
                      refine (hasb _ (Below.refl _ _)).mono ?_
                      rintro e W9 ⟨rfl, rfl⟩
                      go_wp2_with fail
                      refine hOv.mono ?_
                      rintro e W10 ⟨v, rfl, hv, hb10⟩
                      have hvv : v = false := by
                        cases v with
                        | false => rfl
                        | true => exact absurd (hdom.2 (hv.1 rfl)) (by simp)
                      subst hvv
                      clear hv hdom hOv
                      go_wp2_with fail
                      refine (hasb _ hb10).mono ?_
                      rintro e W11 ⟨rfl, rfl⟩
                      go_wp2_with fail
                      refine (hask _ hb10).mono ?_
                      rintro e W11 ⟨rfl, rfl⟩
                      go_wp2_with fail
                      refine (hasb _ hb10).mono ?_
                      rintro e W11 ⟨rfl, rfl⟩
                      go_wp2
                      go_roundw
                      case rel => exact ⟨b + 1, by omega, by go_num, hB8.trans (hb10.mono hB8.size), blk_below hb10 hs8 (blk_lt hs8), hu8.below hb10, hal8.below hb10, hll8.below hb10⟩
                      case measure => simp [intOf]; omega
                    · cases hl
                      · rw [show (true && !false) = true from rfl] at hdom ⊢
                        go_wp2_with fail
                        refine (hasb _ (Below.refl _ _)).mono ?_
                        rintro e W9 ⟨rfl, rfl⟩
                        go_wp2_with fail
                        refine (hasb _ (Below.refl _ _)).mono ?_
                        rintro e W9 ⟨rfl, rfl⟩
                        go_wp2_with fail
                        refine hOv.mono ?_
                        rintro e W10 ⟨v, rfl, hv, hb10⟩
                        have hvv : v = true := hv.2 (hdom.1 (by simp))
                        subst hvv
                        clear hv hdom hOv
                        go_wp2_with fail
                        refine (hasb _ hb10).mono ?_
                        rintro e W11 ⟨rfl, rfl⟩
                        go_wp2_with fail
                        refine (hask _ hb10).mono ?_
                        rintro e W11 ⟨rfl, rfl⟩
                        go_wp2_with fail
                        refine (hasl _ hb10).mono ?_
                        rintro e W11 ⟨rfl, rfl⟩
                        go_wp2_with fail
                        refine (hasb _ hb10).mono ?_
                        rintro e W11 ⟨rfl, rfl⟩
                        go_wp2
                        go_roundw
                        case rel => exact ⟨b + 1, by omega, by go_num, hB8.trans (hb10.mono hB8.size), blk_below hb10 hs8 (blk_lt hs8), hu8.below hb10, hal8.below hb10, hll8.below hb10⟩
                        case measure => simp [intOf]; omega
                      · rw [show (true && !true) = false from rfl] at hdom ⊢
                        go_wp2_with fail
                        refine (hasb _ (Below.refl _ _)).mono ?_
                        rintro e W9 ⟨rfl, rfl⟩
                        go_wp2_with fail
                        refine (hasb _ (Below.refl _ _)).mono ?_
                        rintro e W9 ⟨rfl, rfl⟩
                        go_wp2_with fail
                        refine hOv.mono ?_
                        rintro e W10 ⟨v, rfl, hv, hb10⟩
                        have hvv : v = false := by
                          cases v with
                          | false => rfl
                          | true => exact absurd (hdom.2 (hv.1 rfl)) (by simp)
                        subst hvv
                        clear hv hdom hOv
                        go_wp2_with fail
                        refine (hasb _ hb10).mono ?_
                        rintro e W11 ⟨rfl, rfl⟩
                        go_wp2_with fail
                        refine (hask _ hb10).mono ?_
                        rintro e W11 ⟨rfl, rfl⟩
                        go_wp2_with fail
                        refine (hasl _ hb10).mono ?_
                        rintro e W11 ⟨rfl, rfl⟩
                        go_wp2_with fail
                        refine (hasb _ hb10).mono ?_
                        rintro e W11 ⟨rfl, rfl⟩
                        go_wp2
                        go_roundw
                        case rel => exact ⟨b + 1, by omega, by go_num, hB8.trans (hb10.mono hB8.size), blk_below hb10 hs8 (blk_lt hs8), hu8.below hb10, hal8.below hb10, hll8.below hb10⟩
                        case measure => simp [intOf]; omega
                · obtain ⟨hp0, rfl⟩ := hno hbl2
                  have hov0 : ov = false := by rw [hov, hp0]; simp
                  have hnn0 : nn = 0 := by rw [hnn, hp0]; rfl
                  subst hov0
                  have hnle : nn ≤ bs.length := by omega
                  have hdle : decide ((nn : Int) ≤ (bs.length : Int)) = true := decide_eq_true (by omega)
                  have hasb := fun W (h : Below wr.heap.size wr W) => has11_any A5 c5 al (b : Int) W (hal8.below h)
                  have hcf : al.contains (b : Int) = false := by
                    cases hq : al.contains (b : Int) with
                    | false => rfl
                    | true => exact absurd ((hml b).1 (List.contains_iff_mem.1 hq)) hbl2
                  rw [hcf] at hasb
                  have hOv := Over_any P A c bs (k : Int) (b : Int) hbi wr (hF.rf.below hB8) hcl
                  have hnd : ¬ DomP bs (k : Int) (b : Int) := fun h => hbl2 ((oway b).2 h.1)
                  have d0 : wr.cell? ⟨w.heap.size, 0, none⟩ = some P := (cell_of_row _ _ _ _ _ _ hs8).trans rfl
                  have d1 : wr.cell? ⟨w.heap.size, 1, none⟩ = some (.slice A bs.length c) := (cell_of_row _ _ _ _ _ _ hs8).trans rfl
                  have hUb := hTr.out b hbl hbl2
                  clear hin hno hov hnn hnn0 hp0 hcf hhas
                  go_wp2_with fail
                  refine (hasb _ (Below.refl _ _)).mono ?_
                  rintro e W9 ⟨rfl, rfl⟩
                  go_wp2_with fail
                  refine (hasb _ (Below.refl _ _)).mono ?_
                  rintro e W9 ⟨rfl, rfl⟩
                  go_wp2_with fail
                  refine hOv.mono ?_
                  rintro e W10 ⟨v, rfl, hv, hb10⟩
                  have hvv : v = false := by
                    cases v with
                    | false => rfl
                    | true => exact absurd (hv.1 rfl) hnd
                  subst hvv
                  clear hv hnd hOv
                  obtain ⟨_, _, e9, _, hcu, _⟩ := (hu8.below hb10).at_ (k := b) (by rw [hul]; exact hbl)
                  cases e9
                  rw [hUb, Nat.zero_add] at hcu
                  go_wp2_with fail
                  refine (hasb _ hb10).mono ?_
                  rintro e W11 ⟨rfl, rfl⟩
                  go_wp2_with fail
                  refine (hasb _ hb10).mono ?_
                  rintro e W11 ⟨rfl, rfl⟩
                  go_wp2
                  go_roundw
                  case rel => exact ⟨b + 1, by omega, by go_num, hB8.trans (hb10.mono hB8.size), blk_below hb10 hs8 (blk_lt hs8), hu8.below hb10, hal8.below hb10, hll8.below hb10⟩
                  case measure => simp [intOf]; omega
            · obtain rfl : b = bs.length := by omega
              have hd8 : decide ((bs.length : Int) < (bs.length : Int)) = false := by simp
              go_wp2
              go_roundw
              case rel => exact ⟨k + 1, by omega, by go_num, hB8, hs8, hu8, hal8⟩
              case measure => simp [intOf]; omega
        · obtain rfl : k = bs.length := by omega
          have hd6 : decide ((bs.length : Int) < (bs.length : Int)) = false := by simp
          go_wp2
          go_ret
          exact ⟨rfl, hB6⟩

end Go.Proofs.YtjichaeegheacaaDoor
