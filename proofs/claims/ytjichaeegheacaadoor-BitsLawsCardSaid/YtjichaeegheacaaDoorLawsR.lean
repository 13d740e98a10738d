/-
  Law 15, BitsLaws: the two long regions.
-/
import Derived.Test.YtjichaeegheacaaDoorLex
namespace Go.Proofs.YtjichaeegheacaaDoor
open Go Go.RowKit

theorem has_withL (xs : List Int) (n : Int) : (inR n && (withL 0 xs).testBit n.toNat) = hasI xs n := by
  unfold hasI
  cases h : inR n
  · simp
  · have hn := (inR_iff n).1 h
    rw [testBit_withL _ (by omega), Nat.zero_testBit, Int.toNat_of_nonneg hn.1]
    simp

theorem has_or (xs ys : List Int) (n : Int) : (inR n && (withL 0 xs ||| withL 0 ys).testBit n.toNat) = (hasI xs n || hasI ys n) := by
  rw [← has_withL, ← has_withL, Nat.testBit_or]
  cases inR n <;> simp
theorem has_and (xs ys : List Int) (n : Int) : (inR n && (withL 0 xs &&& withL 0 ys).testBit n.toNat) = (hasI xs n && hasI ys n) := by
  rw [← has_withL, ← has_withL, Nat.testBit_and]
  cases inR n <;> simp
theorem has_less (xs ys : List Int) (n : Int) : (inR n && (lessN (withL 0 xs) (withL 0 ys)).testBit n.toNat) = (hasI xs n && !hasI ys n) := by
  rw [← has_withL, ← has_withL, testBit_lessN]
  cases inR n <;> simp

/-- As far as the loop has looked, the two sets agree. -/
def oneN (xs ys : List Int) (k : Nat) : Bool := (List.range k).all fun i => hasI xs ((i : Int) - 1) == hasI ys ((i : Int) - 1)
theorem oneN_succ (xs ys : List Int) (k : Nat) : oneN xs ys (k + 1) = (oneN xs ys k && (hasI xs ((k : Int) - 1) == hasI ys ((k : Int) - 1))) := by
  simp [oneN, List.range_succ]
theorem oneN_all (xs ys : List Int) : decide (withL 0 xs = withL 0 ys) = oneN xs ys 1027 := by
  rw [Bool.eq_iff_iff, decide_eq_true_iff]
  constructor
  · intro h
    simp only [oneN, List.all_eq_true, List.mem_range, beq_iff_eq]
    intro i _
    rw [← has_withL, ← has_withL, h]
  · intro h
    refine set_ext (withL_sm _ sm_zero) (withL_sm _ sm_zero) fun j hj => ?_
    simp only [oneN, List.all_eq_true, List.mem_range, beq_iff_eq] at h
    have := h (j + 1) (by omega)
    rw [← has_withL, ← has_withL, show (((j + 1 : Nat) : Int) - 1) = (j : Int) by omega] at this
    have hr : inR (j : Int) = true := (inR_iff _).2 (by omega)
    simpa [hr] using this

theorem upTo_rising (N : Nat) : ∀ m i : Nat, i + 1 < (upTo N m).length → gI (upTo N m) i < gI (upTo N m) (i + 1)
  | 0, i, h => by simp [upTo_zero] at h
  | m + 1, i, h => by
    have ih := upTo_rising N m i
    rw [upTo_succ] at h ⊢
    split at h
    · rename_i hb
      rw [if_pos hb]
      simp only [List.length_append, List.length_cons, List.length_nil, Nat.zero_add] at h
      by_cases h1 : i + 1 < (upTo N m).length
      · rw [gI_append_left (by omega), gI_append_left h1]; exact ih h1
      · have h2 : i + 1 = (upTo N m).length := by omega
        rw [gI_append_left (by omega)]
        have h3 : gI (upTo N m ++ [(m : Int)]) (i + 1) = m := by simp [gI, h2]
        rw [h3]
        obtain ⟨j, hj, _, e⟩ := (mem_upTo N m _).1 (gI_mem (xs := upTo N m) (i := i) (by omega))
        rw [e]; omega
    · rename_i hb
      rw [if_neg hb]; exact ih h
theorem upTo_has (xs : List Int) (x : Int) (hx : x ∈ upTo (withL 0 xs) 1024) : hasI xs x = true := by
  obtain ⟨j, hj, hb, rfl⟩ := (mem_upTo _ _ _).1 hx
  rw [← has_withL, (inR_iff _).2 (by omega)]
  simpa using hb

theorem law_1 (S T : Nat) : S ||| T = T ||| S := by
  apply Nat.eq_of_testBit_eq; intro j
  simp only [Nat.testBit_or]
  cases S.testBit j <;> cases T.testBit j <;> rfl
theorem law_2 (S T : Nat) : S &&& T = T &&& S := by
  apply Nat.eq_of_testBit_eq; intro j
  simp only [Nat.testBit_and]
  cases S.testBit j <;> cases T.testBit j <;> rfl
theorem law_3 (S T U : Nat) : S ||| T ||| U = S ||| (T ||| U) := by
  apply Nat.eq_of_testBit_eq; intro j
  simp only [Nat.testBit_or]
  cases S.testBit j <;> cases T.testBit j <;> cases U.testBit j <;> rfl
theorem law_4 (S T U : Nat) : S &&& T &&& U = S &&& (T &&& U) := by
  apply Nat.eq_of_testBit_eq; intro j
  simp only [Nat.testBit_and]
  cases S.testBit j <;> cases T.testBit j <;> cases U.testBit j <;> rfl
theorem law_5 (S T U : Nat) : S &&& (T ||| U) = (S &&& T) ||| (S &&& U) := by
  apply Nat.eq_of_testBit_eq; intro j
  simp only [Nat.testBit_or, Nat.testBit_and]
  cases S.testBit j <;> cases T.testBit j <;> cases U.testBit j <;> rfl
theorem law_6 (S T U : Nat) : S ||| (T &&& U) = (S ||| T) &&& (S ||| U) := by
  apply Nat.eq_of_testBit_eq; intro j
  simp only [Nat.testBit_or, Nat.testBit_and]
  cases S.testBit j <;> cases T.testBit j <;> cases U.testBit j <;> rfl
theorem law_7 (S T : Nat) : lessN S T ||| (S &&& T) = S := by
  apply Nat.eq_of_testBit_eq; intro j
  simp only [Nat.testBit_or, Nat.testBit_and, testBit_lessN]
  cases S.testBit j <;> cases T.testBit j <;> rfl
theorem law_8 (S T : Nat) : lessN S T &&& T = 0 := by
  apply Nat.eq_of_testBit_eq; intro j
  simp only [Nat.testBit_and, testBit_lessN, Nat.zero_testBit]
  cases S.testBit j <;> cases T.testBit j <;> rfl
theorem below_drewN {w : World} (n : Nat) : Below w.heap.size w (w.drewN n) := ⟨rfl, rfl, rfl, Nat.le_refl _, fun _ _ => rfl⟩

theorem withL_upTo {N : Nat} (hN : Sm N) : withL 0 (upTo N 1024) = N :=
  set_ext (withL_sm _ sm_zero) hN fun j hj => by
    rw [testBit_withL _ hj, Nat.zero_testBit, Bool.false_or, Bool.eq_iff_iff, List.contains_iff_mem, mem_upTo]
    constructor
    · rintro ⟨i, _, hb, e⟩
      have : i = j := by omega
      subst this; exact hb
    · intro h; exact ⟨j, hj, h, rfl⟩

/-- Three variables laid one behind the other, then written. -/
theorem three_laid (w : World) (c S T U : Array Value) (t : TypeId) (W3 W : World) (e3 : W3 = ((w.alloc (.cells c t)).alloc (.cells c t)).alloc (.cells c t)) (e : W = ((W3.setRow w.heap.size S).setRow (w.heap.size + 1) T).setRow (w.heap.size + 1 + 1) U) :
    W3.heap[w.heap.size]? = some (.cells c t (0, 0)) ∧ (W3.setRow w.heap.size S).heap[w.heap.size + 1]? = some (.cells c t (0, 0)) ∧ ((W3.setRow w.heap.size S).setRow (w.heap.size + 1) T).heap[w.heap.size + 1 + 1]? = some (.cells c t (0, 0)) ∧
    W.heap[w.heap.size]? = some (.cells S t (0, 0)) ∧ W.heap[w.heap.size + 1]? = some (.cells T t (0, 0)) ∧ W.heap[w.heap.size + 1 + 1]? = some (.cells U t (0, 0)) ∧ Below w.heap.size w W := by
  have h1 : (w.alloc (.cells c t)).heap[w.heap.size]? = some (.cells c t (0, 0)) := blk_new w _
  have h2 := blk_new (w.alloc (.cells c t)) (.cells c t)
  have h3 := blk_new ((w.alloc (.cells c t)).alloc (.cells c t)) (.cells c t)
  simp only [World.size_alloc] at h2 h3
  have h2' : W3.heap[w.heap.size + 1]? = some (.cells c t (0, 0)) := by rw [e3]; exact (blk_old _ _ (by simp)).trans h2
  have h1' : W3.heap[w.heap.size]? = some (.cells c t (0, 0)) := by rw [e3]; exact ((blk_old _ _ (by simp; omega)).trans (blk_old _ _ (by simp))).trans h1
  have h3' : W3.heap[w.heap.size + 1 + 1]? = some (.cells c t (0, 0)) := by rw [e3]; exact h3
  have k2 : (W3.setRow w.heap.size S).heap[w.heap.size + 1]? = some (.cells c t (0, 0)) := (blk_setRow_far (by omega)).trans h2'
  have k3 : ((W3.setRow w.heap.size S).setRow (w.heap.size + 1) T).heap[w.heap.size + 1 + 1]? = some (.cells c t (0, 0)) := (blk_setRow_far (by omega)).trans ((blk_setRow_far (by omega)).trans h3')
  refine ⟨h1', k2, k3, ?_, ?_, ?_, ?_⟩
  · rw [e]; exact (blk_setRow_far (by omega)).trans ((blk_setRow_far (by omega)).trans (blk_setRow h1'))
  · rw [e]; exact (blk_setRow_far (by omega)).trans (blk_setRow k2)
  · rw [e]; exact blk_setRow k3
  · rw [e]
    refine below_setRow (below_setRow (below_setRow ?_ (Nat.le_refl _) _) (by omega) _) (by omega) _
    rw [e3]
    exact (((Below.refl _ w).alloc (Nat.le_refl _) _).alloc (by simp) _).alloc (by simp; omega) _

set_option maxRecDepth 100000 in
set_option maxHeartbeats 4000000 in
theorem laws_22 {v0 v1 v2 v3 v4 v5 v6 v10 v11 v12 v13 v14 v15 v16 v17 v18 v19 v20 v21 v22 v23 v24 v25 v26 v27 v28 v29 v30 v31 v32 v33 v34 v35 v36 v37 v38 v39 v40 v41 v42 v43 v44 v45 v46 v47 v48 v49 v50 v51 v52 v53 v54 v55 v56 v57 v58 v59 v60 v61 v62 v63 v64 v65 v66 v67 v68 v69 v70 v71 v72 v73 v74 v75 v76 v77 v78 v79 v80 v81 v82 v83 v84 v85 v86 v87 v88 v89 v90 v91 v92 v93 v94 v95 v96 v97 v98 v99 v100 v101 v102 v103 v104 v105 v106 v107 v108 v109 v110 v111 v112 v113 v114 v115 v116 v117 v118 v119 v120 v121 v122 v123 v124 v125 v126 v127 v128 v129 v130 v131 v132 v133 v134 v135 v136 v137 v138 v139 v140 v141 v142 v143 v144 v145 v146 v147 v148 v149 v150 v151 v152 v153 v154 v155 v156 v157 v158 v159 v160 v161 v162 v163 v164 v165 v166 v167 v168 v169 v170 v171 v172 v173 v174 v175 v176 v177 v178 v179 v180 v181 v182 v183 v184 v185 v186 v187 v188 v189 v190 v191 v192 v193 v194 v195 v196 v197 v198 v199 v200 v201 v202 v203 v204 v205 v206 v207 v208 v209 v210 v211 v212 v213 v214 v215 v216 v217 v218 v219 v220 v221 v222 v223 v224 v225 v226 v227 v228 v229 v230 v231 v232 v233 v234 v235 v236 v237 v238 v239 v240 v241 v242 v243 v244 : Value} {g S T U : Nat} (hS : Sm S) (hSt : Sm T) (hSu : Sm U) {W : World} {Q : Exit → Act → World → Prop}
    (F1 : W.heap[g]? = some (.cells (setA S) 27 (0, 0))) (F2 : W.heap[g + 1]? = some (.cells (setA T) 27 (0, 0))) (F3 : W.heap[g + 1 + 1]? = some (.cells (setA U) 27 (0, 0)))
    (hQ : ∀ (s153 s154 s155 s156 s157 s158 s159 s160 s161 s162 s163 s164 s165 s166 s167 s168 s169 s170 s171 s172 s173 s174 s175 s176 s177 s178 s179 s180 s181 s182 s183 s184 s185 s186 s187 s188 s189 s190 s191 s192 s193 s194 s195 s196 s197 s198 s199 s200 s201 s202 s203 s204 s205 s206 s207 s208 s209 s210 s211 s212 s213 s214 s215 s216 s217 s218 s219 s220 s221 s222 s223 s224 s225 s226 s227 s228 s229 s230 s231 s232 s233 s234 s235 s236 s237 s238 s239 s240 s241 s242 s243 s244 : Value) (W' : World), Below W.heap.size W W' → Q .normal { tmps := #[v0, v1, v2, v3, v4, v5, .bool true, .pointer (some ⟨g, 0, none⟩), .pointer (some ⟨g + 1, 0, none⟩), .pointer (some ⟨g + 1 + 1, 0, none⟩), v10, v11, v12, v13, v14, v15, v16, v17, v18, v19, v20, v21, v22, v23, v24, v25, v26, v27, v28, v29, v30, v31, v32, v33, v34, v35, v36, v37, v38, v39, v40, v41, v42, v43, v44, v45, v46, v47, v48, v49, v50, v51, v52, v53, v54, v55, v56, v57, v58, v59, v60, v61, v62, v63, v64, v65, v66, v67, v68, v69, v70, v71, v72, v73, v74, v75, v76, v77, v78, v79, v80, v81, v82, v83, v84, v85, v86, v87, v88, v89, v90, v91, v92, v93, v94, v95, v96, v97, v98, v99, v100, v101, v102, v103, v104, v105, v106, v107, v108, v109, v110, v111, v112, v113, v114, v115, v116, v117, v118, v119, v120, v121, v122, v123, v124, v125, v126, v127, v128, v129, v130, v131, v132, v133, v134, v135, v136, v137, v138, v139, v140, v141, v142, v143, v144, v145, v146, v147, v148, v149, v150, v151, v152, s153, s154, s155, s156, s157, s158, s159, s160, s161, s162, s163, s164, s165, s166, s167, s168, s169, s170, s171, s172, s173, s174, s175, s176, s177, s178, s179, s180, s181, s182, s183, s184, s185, s186, s187, s188, s189, s190, s191, s192, s193, s194, s195, s196, s197, s198, s199, s200, s201, s202, s203, s204, s205, s206, s207, s208, s209, s210, s211, s212, s213, s214, s215, s216, s217, s218, s219, s220, s221, s222, s223, s224, s225, s226, s227, s228, s229, s230, s231, s232, s233, s234, s235, s236, s237, s238, s239, s240, s241, s242, s243, s244], defers := [] } W') :
    (Code.region 22 ops22.toArray true).wp Tryd.prog Q { tmps := #[v0, v1, v2, v3, v4, v5, v6, .pointer (some ⟨g, 0, none⟩), .pointer (some ⟨g + 1, 0, none⟩), .pointer (some ⟨g + 1 + 1, 0, none⟩), v10, v11, v12, v13, v14, v15, v16, v17, v18, v19, v20, v21, v22, v23, v24, v25, v26, v27, v28, v29, v30, v31, v32, v33, v34, v35, v36, v37, v38, v39, v40, v41, v42, v43, v44, v45, v46, v47, v48, v49, v50, v51, v52, v53, v54, v55, v56, v57, v58, v59, v60, v61, v62, v63, v64, v65, v66, v67, v68, v69, v70, v71, v72, v73, v74, v75, v76, v77, v78, v79, v80, v81, v82, v83, v84, v85, v86, v87, v88, v89, v90, v91, v92, v93, v94, v95, v96, v97, v98, v99, v100, v101, v102, v103, v104, v105, v106, v107, v108, v109, v110, v111, v112, v113, v114, v115, v116, v117, v118, v119, v120, v121, v122, v123, v124, v125, v126, v127, v128, v129, v130, v131, v132, v133, v134, v135, v136, v137, v138, v139, v140, v141, v142, v143, v144, v145, v146, v147, v148, v149, v150, v151, v152, v153, v154, v155, v156, v157, v158, v159, v160, v161, v162, v163, v164, v165, v166, v167, v168, v169, v170, v171, v172, v173, v174, v175, v176, v177, v178, v179, v180, v181, v182, v183, v184, v185, v186, v187, v188, v189, v190, v191, v192, v193, v194, v195, v196, v197, v198, v199, v200, v201, v202, v203, v204, v205, v206, v207, v208, v209, v210, v211, v212, v213, v214, v215, v216, v217, v218, v219, v220, v221, v222, v223, v224, v225, v226, v227, v228, v229, v230, v231, v232, v233, v234, v235, v236, v237, v238, v239, v240, v241, v242, v243, v244], defers := [] } W := by
  have m1 := or_sm hS hSt
  have m2 := and_sm T hS
  have m3 := or_sm (or_sm hS hSt) hSu
  have m4 := and_sm U (and_sm T hS)
  have m5 := and_sm (T ||| U) hS
  have m6 := or_sm hS (and_sm U hSt)
  have m7 := or_sm (less_sm T hS) (and_sm T hS)
  have m8 := and_sm T (less_sm T hS)
  have e1 := Lib.hid (law_1 S T)
  have e2 := Lib.hid (law_2 S T)
  have e3 := Lib.hid (law_3 S T U)
  have e4 := Lib.hid (law_4 S T U)
  have e5 := Lib.hid (law_5 S T U)
  have e6 := Lib.hid (law_6 S T U)
  have e7 := Lib.hid (law_7 S T)
  have e8 := Lib.hid (law_8 S T)
  have hQ' := Lib.hid hQ
  clear hQ
  refine wp_region_quiet_below (by kernel_rfl) ops22_lex ?_
  simp only [ops22, bodyOf, hdc, tl, opsOf, Tryd.f4, List.append_eq, List.cons_append, List.nil_append]
  repeat (first
      | go_big_quiet_skip
      | (go_big_quiet_want; first
          | (go_big_quiet_op; go_big_quiet_on)
          | ((first
              | refine q_go ⟨_, ⟨0, #[]⟩, rfl⟩ (fun K' hk => q_load _ _ rfl _ rfl _ _ _ _ (fun W hW => blk_below (below_of_grow hW) F1 (blk_lt F1)) Tryd.underlying27 rfl (szSetA _) hk) ?_
              | refine q_go ⟨_, ⟨0, #[]⟩, rfl⟩ (fun K' hk => q_load _ _ rfl _ rfl _ _ _ _ (fun W hW => blk_below (below_of_grow hW) F2 (blk_lt F2)) Tryd.underlying27 rfl (szSetA _) hk) ?_
              | refine q_go ⟨_, ⟨0, #[]⟩, rfl⟩ (fun K' hk => q_load _ _ rfl _ rfl _ _ _ _ (fun W hW => blk_below (below_of_grow hW) F3 (blk_lt F3)) Tryd.underlying27 rfl (szSetA _) hk) ?_
              | refine q_go ⟨_, ⟨0, #[]⟩, rfl⟩ (fun K' hk => q_call2 14 _ _ _ rfl (.agg (setA _)) rfl (.agg (setA _)) rfl (by kernel_rfl) _ (fresh_grow (fun W _ => Or_any _ _ W)) hk) ?_
              | refine q_go ⟨_, ⟨0, #[]⟩, rfl⟩ (fun K' hk => q_call2 17 _ _ _ rfl (.agg (setA _)) rfl (.agg (setA _)) rfl (by kernel_rfl) _ (fresh_grow (fun W _ => And_any _ _ W)) hk) ?_
              | refine q_go ⟨_, ⟨0, #[]⟩, rfl⟩ (fun K' hk => q_call2 13 _ _ _ rfl (.agg (setA _)) rfl (.agg (setA _)) rfl (by kernel_rfl) _ (fresh_grow (fun W _ => Less_any _ _ W)) hk) ?_
              | refine q_go ⟨_, ⟨0, #[]⟩, rfl⟩ (fun K' hk => q_build_set rfl hk) ?_
              | refine q_go ⟨_, ⟨0, #[]⟩, rfl⟩ (fun K' hk => q_sets_eq _ _ _ _ rfl rfl rfl (by with_reducible first | exact m1 | exact m2 | exact m3 | exact m4 | exact m5 | exact m6 | exact m7 | exact m8) (by with_reducible first | exact e1.out | exact e2.out | exact e3.out | exact e4.out | exact e5.out | exact e6.out | exact e7.out | exact e8.out) hk) ?_); go_big_quiet_op; go_big_quiet_on)))
  refine wpQuiet_nil ?_
  intro W9 hW9
  exact hQ'.out _ _ _ _ _ _ _ _ _ _ _ _ _ _ _ _ _ _ _ _ _ _ _ _ _ _ _ _ _ _ _ _ _ _ _ _ _ _ _ _ _ _ _ _ _ _ _ _ _ _ _ _ _ _ _ _ _ _ _ _ _ _ _ _ _ _ _ _ _ _ _ _ _ _ _ _ _ _ _ _ _ _ _ _ _ _ _ _ _ _ _ _  W9 (below_of_grow hW9)

end Go.Proofs.YtjichaeegheacaaDoor
