/-
  Law 11, DomWay: the walk.
-/
import Derived.Test.YtjichaeegheacaaAwake11
import Derived.Test.YtjichaeegheacaaCount
namespace Go.Proofs.Ytjichaeegheacaa
open Go Go.RowKit

theorem tmod_bd (x : Int) (n : Nat) (h0 : 0 < n) : -(n : Int) < x.tmod n ∧ x.tmod n < n := by
  refine ⟨?_, Int.tmod_lt_of_pos x (by omega)⟩
  by_cases h : 0 ≤ x
  · have := Int.tmod_nonneg (n : Int) h
    omega
  · obtain ⟨y, rfl⟩ : ∃ y, x = -y := ⟨-x, by omega⟩
    rw [Int.neg_tmod]
    have := Int.tmod_lt_of_pos y (b := (n : Int)) (by omega)
    omega
set_option maxHeartbeats 1000000 in
theorem Pick_any (x : Int) (n : Nat) (hx : I64 x) (h0 : 0 < n) (hn : n ≤ 1000000) (w : World) :
    Calls Try.prog 8 #[.int .i64 x, .int .i64 n] w fun e w' => ∃ r : Nat, r < n ∧ e = .returned (.int .i64 r) ∧ w' = w := by
  obtain ⟨x1, x2⟩ := hx
  obtain ⟨t1, t2⟩ := tmod_bd x n h0
  have hd : decide ((n : Int) < 1) = false := decide_eq_false (by omega)
  have hz : ((n : Int) == 0) = false := by rw [beq_eq_false_iff_ne]; omega
  by_cases h : x.tmod n < 0
  · have hl : decide (x.tmod n < 0) = true := decide_eq_true h
    have he : ∃ r : Nat, r < n ∧ x.tmod n + n = (r : Int) := ⟨(x.tmod n + n).toNat, by omega, by omega⟩
    obtain ⟨r, hr, he⟩ := he
    have he' := Lib.hid he
    clear he
    go_enter Try.func8, Try.ntmps8
    go_wp2
    all_goals
      go_ret
      exact ⟨r, hr, by rw [← he'.out]; rfl, rfl⟩
  · have hl : decide (x.tmod n < 0) = false := decide_eq_false h
    have he : ∃ r : Nat, r < n ∧ x.tmod n = (r : Int) := ⟨(x.tmod n).toNat, by omega, by omega⟩
    obtain ⟨r, hr, he⟩ := he
    have he' := Lib.hid he
    clear he
    go_enter Try.func8, Try.ntmps8
    go_wp2
    all_goals
      go_ret
      exact ⟨r, hr, by rw [he'.out]; rfl, rfl⟩

/-- Where a way has come to; what it has gone through. -/
def Gone (bs : List Blk) (gl : List Int) (at_ : Int) : Prop := Way (suB bs) 0 at_ ∧ ∀ d, d ∉ gl → Rt (suB bs) bs.length [0] [d] at_
theorem gone_start {bs : List Blk} (h : 0 < bs.length) : Gone bs [0] 0 :=
  ⟨.refl 0, fun d hd => .base (by simp) (by simp at hd ⊢; omega) (by omega) (by omega)⟩
theorem gone_step {bs : List Blk} {gl : List Int} {x y : Int} (h : Gone bs gl x) (hy : y ∈ suB bs x) : Gone bs (gl ++ [y]) y :=
  ⟨h.1.step hy, fun d hd => by
    rw [List.mem_append] at hd
    have h1 : d ∉ gl := fun q => hd (.inl q)
    have h2 : ¬ d = y := fun q => hd (.inr (by simp [q]))
    exact (h.2 d h1).step hy (by simp; exact fun q => h2 q.symm)⟩
theorem gone_dom {bs : List Blk} {gl : List Int} {x d : Int} (h : Gone bs gl x) (hd : DomP bs d x) : d ∈ gl := by
  by_cases q : d ∈ gl
  · exact q
  · exact absurd (h.2 d q) hd.2.2
theorem i64_snoc (l : List Int) (x : Int) (h : ∀ y ∈ l, I64 y) (hx : I64 x) : ∀ y ∈ l ++ [x], I64 y := by
  intro y hy
  rw [List.mem_append] at hy
  rcases hy with hy | hy
  · exact h y hy
  · simp at hy; subst hy; exact hx
theorem i64_zero : ∀ x ∈ ([0] : List Int), I64 x := by intro x hx; simp at hx; subst hx; exact ⟨by decide, by decide⟩
theorem own_below {w w' : World} {B n : Nat} {e : TypeId} {s : Nat} {v : Value} {xs : List Value} (h : w.ownsRow B e s v n xs) (hb : Below w.heap.size w w') : w'.ownsRow B e s v n xs := by
  refine ⟨h.1, ?_⟩
  rcases h.2 with q | ⟨g, cap, cur, e1, e2, e3, e4⟩
  · exact .inl q
  · exact .inr ⟨g, cap, cur, e1, e2, blk_below hb e3 (blk_lt e3), e4⟩
theorem way_ok {bs : List Blk} (hc : Cl bs) {x : Int} (h : Way (suB bs) 0 x) : okB bs x := by
  induction h with
  | refl => exact ⟨by omega, by have := hc.pos; omega⟩
  | step _ hy ih => exact hc.go _ ih _ hy
theorem RI_two {w : World} {b : Nat} {x : Int} {t : TypeId} (hb : w.heap[b]? = some (.cells #[.int .i64 x] t (0, 0))) (hx : I64 x) : RI w (some ⟨b, 0, none⟩) [x] := by
  refine ⟨by simp, fun i hi => ?_, fun _ => ⟨b, 0, rfl, blk_lt hb, fun i hi => ?_⟩⟩
  · simp at hi; subst hi; exact hx
  · simp at hi; subst hi
    exact (cell_of_row _ _ _ _ _ _ hb).trans rfl

set_option maxRecDepth 100000 in
set_option maxHeartbeats 8000000 in
theorem DomWay_any (P : Value) (A Aw : Option Addr) (c cw : Nat) (bs : List Blk) (way : List Int) (a b : Int) (ha : I64 a) (hb : I64 b) (w : World) (hF : Fn w P A bs) (hw : RI w Aw way) :
    Calls Try.prog 3 #[.agg #[P, .slice A bs.length c], .slice Aw way.length cw, .int .i64 a, .int .i64 b] w (Fresh w (.bool true)) := by
  have hb0 := (Below.refl w.heap.size w).alloc (Nat.le_refl _) (.cells #[P, .slice A bs.length c] 25)
  have hs := blk_new w (.cells #[P, .slice A bs.length c] 25)
  have hwl := hw.len
  go_enter Try.func3, Try.ntmps3
  go_wp2_with fail
  refine (awake11_any _).mono ?_
  rintro e W1 ⟨rfl, hb1⟩
  have hs1 := blk_below hb1 hs (blk_lt hs)
  have hB1 := hb0.trans (hb1.mono hb0.size)
  clear hb1 hb0 hs
  go_wp2_with (refine wpList_load_row rfl _ _ rfl _ rfl _ _ _ _ hs1 Try.underlying25 rfl (by kernel_rfl) ?_)
  refine (FuncOf_any P A c bs 120 W1 (hF.below hB1) (by omega) (by omega)).mono ?_
  rintro e W2 ⟨n, rfl, n0, n1, hb2⟩
  have hs2 := blk_below hb2 hs1 (blk_lt hs1)
  have hB2 := hB1.trans (hb2.mono hB1.size)
  clear hb2 hs1 hB1
  by_cases hbig : n > 120
  · have hd : decide (n > 120) = true := decide_eq_true hbig
    go_wp2
    go_ret
    exact ⟨rfl, hB2⟩
  · have hd : decide (n > 120) = false := decide_eq_false hbig
    have q := Closed_any P A c bs W2 (hF.rf.below hB2)
    cases hcl : closedB bs
    · rw [hcl] at q
      go_wp2_with (refine wpList_load_rowG rfl _ _ rfl _ rfl _ _ _ _ hs2 Try.underlying25 rfl (by kernel_rfl) ?_)
      refine q.mono ?_
      rintro e W3 ⟨rfl, hb3⟩
      go_wp2
      go_ret
      exact ⟨rfl, hB2.trans (hb3.mono hB2.size)⟩
    · have hc := closed_cl hF.rf.ok hcl
      have hpos := hc.pos
      have hle := hc.le
      rw [hcl] at q
      go_wp2_with (refine wpList_load_rowG rfl _ _ rfl _ rfl _ _ _ _ hs2 Try.underlying25 rfl (by kernel_rfl) ?_)
      refine q.mono ?_
      rintro e W3 ⟨rfl, hb3⟩
      have hs3 := blk_below hb3 hs2 (blk_lt hs2)
      have hB3 := hB2.trans (hb3.mono hB2.size)
      clear q hb3 hs2 hB2
      by_cases h60 : way.length > 60
      · have hd6 : decide ((way.length : Int) > 60) = true := decide_eq_true (by omega)
        go_wp2
        go_ret
        exact ⟨rfl, hB3⟩
      · have hd6 : decide ((way.length : Int) > 60) = false := decide_eq_false (by omega)
        have hbA := (Below.refl W3.heap.size W3).alloc (Nat.le_refl _) (.cells #[.int .i64 0] 3)
        have hB4 := hB3.trans (hbA.mono hB3.size)
        have hs4 := blk_below hbA hs3 (blk_lt hs3)
        have hg4 : (W3.alloc (.cells #[.int .i64 0] 3)).ownsRow W3.heap.size 3 1 (.slice (some ⟨W3.heap.size, 0, none⟩) 1 1) 1 (([0] : List Int).map (Value.int .i64)) :=
          ⟨rfl, .inr ⟨W3.heap.size, 1, #[.int .i64 0], rfl, Nat.le_refl _, blk_new W3 _, by omega, by unfold maxLen; omega, rfl, rfl⟩⟩
        go_wp2
        obtain ⟨w4, hw4⟩ : ∃ w4 : World, w4 = W3.alloc (.cells #[.int .i64 0] 3) := ⟨_, rfl⟩
        rw [← hw4] at hbA hB4 hs4 hg4
        change Code.wp _ _ _ (Act.mk _ _) _
        go_loopw [9, 10, 11] (fun v9 v10 v11 wr => ∃ (k : Nat) (gl : List Int) (at_ : Int), k ≤ way.length ∧ v11 = .int .i64 k ∧ v10 = .int .i64 at_ ∧ I64 at_ ∧ wr.ownsRow W3.heap.size 3 1 v9 gl.length (gl.map (Value.int .i64)) ∧ gl.length = k + 1 ∧ (∀ y ∈ gl, I64 y) ∧ Gone bs gl at_ ∧ Below w.heap.size w wr ∧ Below W3.heap.size W3 wr) (fun _ _ i _ => way.length - (intOf i).toNat)
        case atStart => exact ⟨0, [0], 0, Nat.zero_le _, rfl, rfl, ⟨by decide, by decide⟩, hw4 ▸ hg4, rfl, i64_zero, gone_start hpos, hw4 ▸ hB4, hw4 ▸ hbA⟩
        case round =>
          clear hbA hB4 hs4 hg4 hw4
          obtain ⟨k, gl, at_, hk, rfl, rfl, hati, hown, hgl, hgi, hgone, hB5, hb5⟩ := hrel
          have hs5 := blk_below hb5 hs3 (blk_lt hs3)
          by_cases hkl : k < way.length
          · have hd5 : decide ((k : Int) < (way.length : Int)) = true := decide_eq_true (by omega)
            go_wp2_with (refine wpList_load_row rfl _ _ rfl _ rfl _ _ _ _ hs5 Try.underlying25 rfl (by kernel_rfl) ?_)
            refine (From_any P A c bs at_ wr (hF.rf.below hB5)).mono ?_
            rintro e W6 ⟨v6, rfl, ho6, hn6, hb6⟩
            have hs6 := blk_below hb6 hs5 (blk_lt hs5)
            have hB6 := hB5.trans (hb6.mono hB5.size)
            have hb6' := hb5.trans (hb6.mono hb5.size)
            have hown6 := own_below hown hb6
            clear hb6 hs5 hB5 hb5 hown hn6
            have hse : ∀ e ∈ someE bs (fun x => decide (x.f = at_)), e ∈ edgesOf bs ∧ e.f = at_ := fun e he => by
              unfold someE at he
              rw [hcl, if_pos rfl, List.mem_filter] at he
              exact ⟨he.1, by simpa using he.2⟩
            have hsl : (someE bs (fun x => decide (x.f = at_))).length ≤ 2 * bs.length := by
              unfold someE
              rw [hcl, if_pos rfl]
              exact Nat.le_trans (List.length_filter_le _ _) (edgesTo_len bs bs.length)
            obtain ⟨es, hes⟩ : ∃ es, someE bs (fun x => decide (x.f = at_)) = es := ⟨_, rfl⟩
            rw [hes] at ho6 hse hsl
            clear hes
            obtain ⟨A6, c6, rfl, hc6, hE6⟩ := own_RE ho6 (by omega)
            clear ho6
            by_cases hz : es.length = 0
            · have hdz : ((es.length : Int) == 0) = true := by simp [hz]
              clear hown6 hgone hse hE6
              go_wp2_with (refine wpList_load_row rfl _ _ rfl _ rfl _ _ _ _ hs6 Try.underlying25 rfl (by kernel_rfl) ?_)
              refine (Both_any P A c bs a b ha hb W6 (hF.rf.below hB6) hcl).mono ?_
              rintro e W7 ⟨x, rfl, hbo, hb7⟩
              have hs7 := blk_below hb7 hs6 (blk_lt hs6)
              have hB7 := hB6.trans (hb7.mono hB6.size)
              clear hb7 hs6 hB6
              have d1 : W7.cell? ⟨w.heap.size, 1, none⟩ = some (.slice A bs.length c) := (cell_of_row _ _ _ _ _ _ hs7).trans rfl
              go_wp2
              obtain ⟨w7, rfl⟩ : ∃ w7 : World, w7 = W7 := ⟨_, rfl⟩
              change Code.wp _ _ _ (Act.mk _ _) _
              go_loopw [15] (fun v15 wr => ∃ k : Nat, k ≤ bs.length ∧ v15 = .int .i64 k ∧ Below w.heap.size w wr ∧ wr.heap[w.heap.size]? = some (.cells #[P, .slice A bs.length c] 25 (0, 0))) (fun i _ => bs.length - (intOf i).toNat)
              case atStart => exact ⟨0, Nat.zero_le _, rfl, hB7, hs7⟩
              case round =>
                clear hB7 hs7 d1
                obtain ⟨k, hk, rfl, hB8, hs8⟩ := hrel
                have d1 : wr.cell? ⟨w.heap.size, 1, none⟩ = some (.slice A bs.length c) := (cell_of_row _ _ _ _ _ _ hs8).trans rfl
                by_cases hkl : k < bs.length
                · have hd8 : decide ((k : Int) < (bs.length : Int)) = true := decide_eq_true (by omega)
                  go_wp2_with (refine wpList_load_row rfl _ _ rfl _ rfl _ _ _ _ hs8 Try.underlying25 rfl (by kernel_rfl) ?_)
                  refine (Over_any P A c bs k a ha wr (hF.rf.below hB8) hcl).mono ?_
                  rintro e W9 ⟨v1, rfl, hv1, hb9⟩
                  have hs9 := blk_below hb9 hs8 (blk_lt hs8)
                  have hB9 := hB8.trans (hb9.mono hB8.size)
                  clear hb9 hs8 hB8 d1
                  cases v1
                  · clear hv1
                    go_wp2
                    go_roundw
                    case rel => exact ⟨k + 1, by omega, by go_num, hB9, hs9⟩
                    case measure => simp [intOf]; omega
                  · have h1 := hv1.1 rfl
                    clear hv1
                    go_wp2_with (refine wpList_load_rowG rfl _ _ rfl _ rfl _ _ _ _ hs9 Try.underlying25 rfl (by kernel_rfl) ?_)
                    refine (Over_any P A c bs k b hb W9 (hF.rf.below hB9) hcl).mono ?_
                    rintro e W10 ⟨v2, rfl, hv2, hb10⟩
                    have hs10 := blk_below hb10 hs9 (blk_lt hs9)
                    have hB10 := hB9.trans (hb10.mono hB9.size)
                    clear hb10 hs9 hB9
                    cases v2
                    · clear h1 hv2
                      go_wp2
                      go_roundw
                      case rel => exact ⟨k + 1, by omega, by go_num, hB10, hs10⟩
                      case measure => simp [intOf]; omega
                    · have h2 := hv2.1 rfl
                      obtain ⟨hwx, hdx⟩ := hbo.1 ⟨h1.1, h2.1⟩
                      have hox := way_ok hc hwx
                      have hxi : I64 x := ⟨by have := hox.1; omega, by have := hox.2; omega⟩
                      have hx0 := hox.1
                      have hlt : decide (x < 0) = false := decide_eq_false (by omega)
                      have hk3 := (hdx (k : Int)).2 ⟨h1, h2⟩
                      clear hv2 h1 h2 hdx
                      go_wp2_with (refine wpList_load_rowG rfl _ _ rfl _ rfl _ _ _ _ hs10 Try.underlying25 rfl (by kernel_rfl) ?_)
                      refine (Over_any P A c bs k x hxi W10 (hF.rf.below hB10) hcl).mono ?_
                      rintro e W11 ⟨v3, rfl, hv3, hb11⟩
                      have hs11 := blk_below hb11 hs10 (blk_lt hs10)
                      have hB11 := hB10.trans (hb11.mono hB10.size)
                      have hvt : v3 = true := hv3.2 hk3
                      subst hvt
                      clear hv3 hb11 hs10 hB10
                      go_wp2
                      go_roundw
                      case rel => exact ⟨k + 1, by omega, by go_num, hB11, hs11⟩
                      case measure => simp [intOf]; omega
                · obtain rfl : k = bs.length := by omega
                  have hd8 : decide ((bs.length : Int) < (bs.length : Int)) = false := by simp
                  by_cases hx0 : x < 0
                  · have hlt : decide (x < 0) = true := decide_eq_true hx0
                    go_wp2
                    go_ret
                    exact ⟨rfl, hB8⟩
                  · have hlt : decide (x < 0) = false := decide_eq_false hx0
                    have hwab : Way (suB bs) 0 a ∧ Way (suB bs) 0 b := by
                      by_cases q : Way (suB bs) 0 a ∧ Way (suB bs) 0 b
                      · exact q
                      · have := hbo.2 q
                        omega
                    obtain ⟨hwx, hdx⟩ := hbo.1 hwab
                    obtain ⟨h1, h2⟩ := (hdx x).1 (dom_self hwx)
                    clear hdx
                    go_wp2_with (refine wpList_load_rowG rfl _ _ rfl _ rfl _ _ _ _ hs8 Try.underlying25 rfl (by kernel_rfl) ?_)
                    refine (Over_any P A c bs x a ha wr (hF.rf.below hB8) hcl).mono ?_
                    rintro e W9 ⟨v1, rfl, hv1, hb9⟩
                    have hs9 := blk_below hb9 hs8 (blk_lt hs8)
                    have hB9 := hB8.trans (hb9.mono hB8.size)
                    have hvt : v1 = true := hv1.2 h1
                    subst hvt
                    clear hv1 hb9 hs8 hB8 d1
                    go_wp2_with (refine wpList_load_rowG rfl _ _ rfl _ rfl _ _ _ _ hs9 Try.underlying25 rfl (by kernel_rfl) ?_)
                    refine (Over_any P A c bs x b hb W9 (hF.rf.below hB9) hcl).mono ?_
                    rintro e W10 ⟨v2, rfl, hv2, hb10⟩
                    have hvt : v2 = true := hv2.2 h2
                    subst hvt
                    clear hv2
                    go_wp2
                    go_ret
                    exact ⟨rfl, hB9.trans (hb10.mono hB9.size)⟩
            · have hdz : ((es.length : Int) == 0) = false := by simp; intro q; apply hz; rw [q]; rfl
              have hz1 : 0 < es.length := by omega
              obtain ⟨bw, ow, rfl, hbw, hcw, hwi⟩ := hw.at_ hkl
              have hcw6 := (hB6.cell (p := ⟨bw, ow + k, none⟩) hbw).trans hcw
              have hPick := Pick_any (gI way k) es.length hwi hz1 (by omega) W6
              go_wp2_with fail
              refine hPick.mono ?_
              rintro e W7 ⟨r, hr, rfl, rfl⟩
              obtain ⟨be, oe, rfl, hbe, hce⟩ := hE6.rd r hr
              obtain ⟨hc0, hc1, hc2⟩ := hce W7 (Below.refl _ _)
              obtain ⟨heo, hef⟩ := hse _ (gE_mem hr)
              have hei := (edge_i64 hF.rf.ok hF.rf.len heo).2.2
              have hesu := (edge_su heo).2
              rw [hef] at hesu
              generalize (gE es r).t = y at *
              generalize (gE es r).f = y0 at *
              generalize (gE es r).a = y1 at *
              have hr0 : (0 : Int) ≤ (r : Int) := by omega
              have hr1 : (r : Int) < (es.length : Int) := by omega
              have hg2 := gone_step hgone hesu
              have hgi2 := i64_snoc gl y hgi hei
              have hb7 := (Below.refl W7.heap.size W7).alloc (Nat.le_refl _) (.cells #[.int .i64 y] 3)
              have hown7 := own_below hown6 hb7
              have hy7 := RI_two (blk_new W7 (.cells #[.int .i64 y] 3)) hei
              have hS7 : W3.heap.size ≤ (W7.alloc (.cells #[.int .i64 y] 3)).heap.size := Nat.le_trans hb6'.size hb7.size
              have hl7 : gl.length + 1 ≤ 17592186044416 := by omega
              have hgl2 : (gl ++ [y]).length = k + 1 + 1 := by simp [hgl]
              clear hown6 hgone hse hE6 hgi heo hef hesu hcw hPick
              go_wp2_with (refine wpList_app rfl _ _ rfl W3.heap.size _ rfl gl hown7 _ _ _ rfl [y] rfl hy7 (fun e => by cases e) hS7 hl7 ?_; intro v9 W8 hown8 hb8)
              have hb8' := hb6'.trans ((hb7.mono hb6'.size).trans hb8)
              have hB8 := hB3.trans (hb8'.mono hB3.size)
              have hs8 := blk_below hb8' hs3 (blk_lt hs3)
              obtain ⟨A8, c8, hv9, hc8, hR8⟩ := own_RI hown8 hgi2 (by omega)
              have hown8' : W8.ownsRow W3.heap.size 3 1 (.slice A8 (gl ++ [y]).length c8) (gl ++ [y]).length ((gl ++ [y]).map (Value.int .i64)) := hv9 ▸ hown8
              subst hv9
              clear hown8 hb7 hown7 hy7 hS7 hb8 hb6' hB6 hs6
              have d1 : W8.cell? ⟨w.heap.size, 1, none⟩ = some (.slice A bs.length c) := (cell_of_row _ _ _ _ _ _ hs8).trans rfl
              obtain ⟨g2, hg2e⟩ : ∃ g2, g2 = gl ++ [y] := ⟨_, rfl⟩
              rw [← hg2e] at hg2 hgi2 hgl2 hR8 hown8'
              rw [← hg2e]
              have hg2l := Lib.hid hgl2
              clear hg2e hgl2
              go_wp2
              obtain ⟨w8, rfl⟩ : ∃ w8 : World, w8 = W8 := ⟨_, rfl⟩
              change Code.wp _ _ _ (Act.mk _ _) _
              go_loopw [13] (fun v13 wq => ∃ d : Nat, d ≤ bs.length ∧ v13 = .int .i64 d ∧ Below w8.heap.size w8 wq) (fun i _ => bs.length - (intOf i).toNat)
              case atStart => exact ⟨0, Nat.zero_le _, rfl, Below.refl _ _⟩
              case round =>
                clear d1
                obtain ⟨d, hd, rfl, hb9⟩ := hrel
                have hs9 := blk_below hb9 hs8 (blk_lt hs8)
                have hB9 := hB8.trans (hb9.mono hB8.size)
                have d1 : wr.cell? ⟨w.heap.size, 1, none⟩ = some (.slice A bs.length c) := (cell_of_row _ _ _ _ _ _ hs9).trans rfl
                by_cases hdl : d < bs.length
                · have hd9 : decide ((d : Int) < (bs.length : Int)) = true := decide_eq_true (by omega)
                  go_wp2_with (refine wpList_load_row rfl _ _ rfl _ rfl _ _ _ _ hs9 Try.underlying25 rfl (by kernel_rfl) ?_)
                  refine (Over_any P A c bs d y hei wr (hF.rf.below hB9) hcl).mono ?_
                  rintro e W10 ⟨v1, rfl, hv1, hb10⟩
                  have hb10' := hb9.trans (hb10.mono hb9.size)
                  clear d1 hs9 hB9
                  cases v1
                  · clear hv1
                    go_wp2
                    go_roundw
                    case rel => exact ⟨d + 1, by omega, by go_num, hb10'⟩
                    case measure => simp [intOf]; omega
                  · have h1 := gone_dom hg2 (hv1.1 rfl)
                    have hhas := has11_any A8 c8 g2 d W10 (hR8.below hb10')
                    rw [show g2.contains (d : Int) = true from List.contains_iff_mem.2 h1] at hhas
                    clear hv1 h1
                    go_wp2_with fail
                    refine hhas.mono ?_
                    rintro e W11 ⟨rfl, rfl⟩
                    go_wp2
                    go_roundw
                    case rel => exact ⟨d + 1, by omega, by go_num, hb10'⟩
                    case measure => simp [intOf]; omega
                · obtain rfl : d = bs.length := by omega
                  have hd9 : decide ((bs.length : Int) < (bs.length : Int)) = false := by simp
                  go_wp2
                  go_roundw
                  case rel => exact ⟨k + 1, g2, y, by omega, by go_num, rfl, hei, own_below hown8' hb9, hg2l.out, hgi2, hg2, hB9, hb8'.trans (hb9.mono hb8'.size)⟩
                  case measure => simp [intOf]; omega
          · obtain rfl : k = way.length := by omega
            have hd5 : decide ((way.length : Int) < (way.length : Int)) = false := by simp
            obtain ⟨W6, hW6⟩ : ∃ W6, W6 = wr := ⟨_, rfl⟩
            subst hW6
            have hs6 := hs5
            have hB6 := hB5
            clear hs5 hB5 hown hgone
            go_wp2_with (refine wpList_load_row rfl _ _ rfl _ rfl _ _ _ _ hs6 Try.underlying25 rfl (by kernel_rfl) ?_)
            refine (Both_any P A c bs a b ha hb W6 (hF.rf.below hB6) hcl).mono ?_
            rintro e W7 ⟨x, rfl, hbo, hb7⟩
            have hs7 := blk_below hb7 hs6 (blk_lt hs6)
            have hB7 := hB6.trans (hb7.mono hB6.size)
            clear hb7 hs6 hB6
            have d1 : W7.cell? ⟨w.heap.size, 1, none⟩ = some (.slice A bs.length c) := (cell_of_row _ _ _ _ _ _ hs7).trans rfl
            go_wp2
            obtain ⟨w7, rfl⟩ : ∃ w7 : World, w7 = W7 := ⟨_, rfl⟩
            change Code.wp _ _ _ (Act.mk _ _) _
            go_loopw [15] (fun v15 wr => ∃ k : Nat, k ≤ bs.length ∧ v15 = .int .i64 k ∧ Below w.heap.size w wr ∧ wr.heap[w.heap.size]? = some (.cells #[P, .slice A bs.length c] 25 (0, 0))) (fun i _ => bs.length - (intOf i).toNat)
            case atStart => exact ⟨0, Nat.zero_le _, rfl, hB7, hs7⟩
            case round =>
              clear hB7 hs7 d1
              obtain ⟨k, hk, rfl, hB8, hs8⟩ := hrel
              have d1 : wr.cell? ⟨w.heap.size, 1, none⟩ = some (.slice A bs.length c) := (cell_of_row _ _ _ _ _ _ hs8).trans rfl
              by_cases hkl : k < bs.length
              · have hd8 : decide ((k : Int) < (bs.length : Int)) = true := decide_eq_true (by omega)
                go_wp2_with (refine wpList_load_row rfl _ _ rfl _ rfl _ _ _ _ hs8 Try.underlying25 rfl (by kernel_rfl) ?_)
                refine (Over_any P A c bs k a ha wr (hF.rf.below hB8) hcl).mono ?_
                rintro e W9 ⟨v1, rfl, hv1, hb9⟩
                have hs9 := blk_below hb9 hs8 (blk_lt hs8)
                have hB9 := hB8.trans (hb9.mono hB8.size)
                clear hb9 hs8 hB8 d1
                cases v1
                · clear hv1
                  go_wp2
                  go_roundw
                  case rel => exact ⟨k + 1, by omega, by go_num, hB9, hs9⟩
                  case measure => simp [intOf]; omega
                · have h1 := hv1.1 rfl
                  clear hv1
                  go_wp2_with (refine wpList_load_rowG rfl _ _ rfl _ rfl _ _ _ _ hs9 Try.underlying25 rfl (by kernel_rfl) ?_)
                  refine (Over_any P A c bs k b hb W9 (hF.rf.below hB9) hcl).mono ?_
                  rintro e W10 ⟨v2, rfl, hv2, hb10⟩
                  have hs10 := blk_below hb10 hs9 (blk_lt hs9)
                  have hB10 := hB9.trans (hb10.mono hB9.size)
                  clear hb10 hs9 hB9
                  cases v2
                  · clear h1 hv2
                    go_wp2
                    go_roundw
                    case rel => exact ⟨k + 1, by omega, by go_num, hB10, hs10⟩
                    case measure => simp [intOf]; omega
                  · have h2 := hv2.1 rfl
                    obtain ⟨hwx, hdx⟩ := hbo.1 ⟨h1.1, h2.1⟩
                    have hox := way_ok hc hwx
                    have hxi : I64 x := ⟨by have := hox.1; omega, by have := hox.2; omega⟩
                    have hx0 := hox.1
                    have hlt : decide (x < 0) = false := decide_eq_false (by omega)
                    have hk3 := (hdx (k : Int)).2 ⟨h1, h2⟩
                    clear hv2 h1 h2 hdx
                    go_wp2_with (refine wpList_load_rowG rfl _ _ rfl _ rfl _ _ _ _ hs10 Try.underlying25 rfl (by kernel_rfl) ?_)
                    refine (Over_any P A c bs k x hxi W10 (hF.rf.below hB10) hcl).mono ?_
                    rintro e W11 ⟨v3, rfl, hv3, hb11⟩
                    have hs11 := blk_below hb11 hs10 (blk_lt hs10)
                    have hB11 := hB10.trans (hb11.mono hB10.size)
                    have hvt : v3 = true := hv3.2 hk3
                    subst hvt
                    clear hv3 hb11 hs10 hB10
                    go_wp2
                    go_roundw
                    case rel => exact ⟨k + 1, by omega, by go_num, hB11, hs11⟩
                    case measure => simp [intOf]; omega
              · obtain rfl : k = bs.length := by omega
                have hd8 : decide ((bs.length : Int) < (bs.length : Int)) = false := by simp
                by_cases hx0 : x < 0
                · have hlt : decide (x < 0) = true := decide_eq_true hx0
                  go_wp2
                  go_ret
                  exact ⟨rfl, hB8⟩
                · have hlt : decide (x < 0) = false := decide_eq_false hx0
                  have hwab : Way (suB bs) 0 a ∧ Way (suB bs) 0 b := by
                    by_cases q : Way (suB bs) 0 a ∧ Way (suB bs) 0 b
                    · exact q
                    · have := hbo.2 q
                      omega
                  obtain ⟨hwx, hdx⟩ := hbo.1 hwab
                  obtain ⟨h1, h2⟩ := (hdx x).1 (dom_self hwx)
                  clear hdx
                  go_wp2_with (refine wpList_load_rowG rfl _ _ rfl _ rfl _ _ _ _ hs8 Try.underlying25 rfl (by kernel_rfl) ?_)
                  refine (Over_any P A c bs x a ha wr (hF.rf.below hB8) hcl).mono ?_
                  rintro e W9 ⟨v1, rfl, hv1, hb9⟩
                  have hs9 := blk_below hb9 hs8 (blk_lt hs8)
                  have hB9 := hB8.trans (hb9.mono hB8.size)
                  have hvt : v1 = true := hv1.2 h1
                  subst hvt
                  clear hv1 hb9 hs8 hB8 d1
                  go_wp2_with (refine wpList_load_rowG rfl _ _ rfl _ rfl _ _ _ _ hs9 Try.underlying25 rfl (by kernel_rfl) ?_)
                  refine (Over_any P A c bs x b hb W9 (hF.rf.below hB9) hcl).mono ?_
                  rintro e W10 ⟨v2, rfl, hv2, hb10⟩
                  have hvt : v2 = true := hv2.2 h2
                  subst hvt
                  clear hv2
                  go_wp2
                  go_ret
                  exact ⟨rfl, hB9.trans (hb10.mono hB9.size)⟩

end Go.Proofs.Ytjichaeegheacaa
