/-
  Law 15: the region of its last test but one.
-/
import Derived.Test.YtjichaeegheacaaDoorLawsR
namespace Go.Proofs.YtjichaeegheacaaDoor
open Go Go.RowKit

set_option maxRecDepth 100000 in
set_option maxHeartbeats 4000000 in
theorem laws_20_nil {v0 v1 v2 v3 v4 v5 v6 v9 v11 v12 v13 v15 v16 v17 v18 v19 v20 v21 v22 v23 v24 v25 v26 v27 v28 v29 v30 v31 v32 v33 v34 v35 v36 v37 v38 v39 v40 v41 v42 v43 v44 v45 v46 v47 v48 v49 v50 v51 v52 v53 v54 v55 v56 v57 v58 v59 v60 v61 v62 v63 v64 v65 v66 v67 v68 v69 v70 v71 v72 v73 v74 v75 v76 v77 v78 v79 v80 v81 v82 v83 v84 v85 v86 v87 v88 v89 v90 v91 v92 v93 v94 v95 v96 v97 v98 v99 v100 v101 v102 v103 v104 v105 v106 v107 v108 v109 v110 v111 v112 v113 v114 v115 v116 v117 v118 v119 v120 v121 v122 v123 v124 v125 v126 v127 v128 v129 v130 v131 v132 v133 v134 v135 v136 v137 v138 v139 v140 v141 v142 v143 v144 v145 v146 v147 v148 v149 v150 v151 v152 v153 v154 v155 v156 v157 v158 v159 v160 v161 v162 v163 v164 v165 v166 v167 v168 v169 v170 v171 v172 v173 v174 v175 v176 v177 v178 v179 v180 v181 v182 v183 v184 v185 v186 v187 v188 v189 v190 v191 v192 v193 v194 v195 v196 v197 v198 v199 v200 v201 v202 v203 v204 v205 v206 v207 v208 v209 v210 v211 v212 v213 v214 v215 v216 v217 v218 v219 v220 v221 v222 v223 v224 v225 v226 v227 v228 v229 v230 v231 v232 v233 v234 v235 v236 v237 v238 v239 v240 v241 v242 v243 v244 : Value} {g S T : Nat} (hS : Sm S) (hSt : Sm T) {bo : Bool} (hbo : Hid (decide (S = T) = bo)) {L : Option Addr} {l : List Int} {lc : Nat} (hl : upTo S 1024 = l) {W : World} (hLr : RI W L l) (hl0 : l.length = 0) {Q : Exit → Act → World → Prop}
    (F1 : W.heap[g]? = some (.cells (setA S) 27 (0, 0))) (F2 : W.heap[g + 1]? = some (.cells (setA T) 27 (0, 0)))
    (hQ : ∀ (s122 s123 s124 s125 s126 s127 s128 s129 s130 s131 s132 s133 s134 s135 s136 s137 s138 s139 s140 s141 s142 s143 s144 s145 s146 s147 s148 s149 s150 s151 : Value) (W' : World), Below W.heap.size W W' → Q .normal { tmps := #[v0, v1, v2, v3, v4, v5, v6, .pointer (some ⟨g, 0, none⟩), .pointer (some ⟨g + 1, 0, none⟩), v9, .bool bo, v11, v12, v13, .slice L l.length lc, v15, v16, v17, v18, v19, v20, v21, v22, v23, v24, v25, v26, v27, v28, v29, v30, v31, v32, v33, v34, v35, v36, v37, v38, v39, v40, v41, v42, v43, v44, v45, v46, v47, v48, v49, v50, v51, v52, v53, v54, v55, v56, v57, v58, v59, v60, v61, v62, v63, v64, v65, v66, v67, v68, v69, v70, v71, v72, v73, v74, v75, v76, v77, v78, v79, v80, v81, v82, v83, v84, v85, v86, v87, v88, v89, v90, v91, v92, v93, v94, v95, v96, v97, v98, v99, v100, v101, v102, v103, v104, v105, v106, v107, v108, v109, v110, v111, v112, v113, v114, v115, v116, v117, v118, v119, v120, v121, s122, s123, s124, s125, s126, s127, s128, s129, s130, s131, s132, s133, s134, s135, s136, s137, s138, s139, s140, s141, s142, s143, s144, s145, s146, s147, s148, s149, s150, s151, .bool false, v153, v154, v155, v156, v157, v158, v159, v160, v161, v162, v163, v164, v165, v166, v167, v168, v169, v170, v171, v172, v173, v174, v175, v176, v177, v178, v179, v180, v181, v182, v183, v184, v185, v186, v187, v188, v189, v190, v191, v192, v193, v194, v195, v196, v197, v198, v199, v200, v201, v202, v203, v204, v205, v206, v207, v208, v209, v210, v211, v212, v213, v214, v215, v216, v217, v218, v219, v220, v221, v222, v223, v224, v225, v226, v227, v228, v229, v230, v231, v232, v233, v234, v235, v236, v237, v238, v239, v240, v241, v242, v243, v244], defers := [] } W') :
    (hdc (hdc (tl (tl (tl (tl (tl (tl (tl (tl (bodyOf Tryd.f4)))))))))) ).wp Tryd.prog Q { tmps := #[v0, v1, v2, v3, v4, v5, v6, .pointer (some ⟨g, 0, none⟩), .pointer (some ⟨g + 1, 0, none⟩), v9, .bool bo, v11, v12, v13, .slice L l.length lc, v15, v16, v17, v18, v19, v20, v21, v22, v23, v24, v25, v26, v27, v28, v29, v30, v31, v32, v33, v34, v35, v36, v37, v38, v39, v40, v41, v42, v43, v44, v45, v46, v47, v48, v49, v50, v51, v52, v53, v54, v55, v56, v57, v58, v59, v60, v61, v62, v63, v64, v65, v66, v67, v68, v69, v70, v71, v72, v73, v74, v75, v76, v77, v78, v79, v80, v81, v82, v83, v84, v85, v86, v87, v88, v89, v90, v91, v92, v93, v94, v95, v96, v97, v98, v99, v100, v101, v102, v103, v104, v105, v106, v107, v108, v109, v110, v111, v112, v113, v114, v115, v116, v117, v118, v119, v120, v121, v122, v123, v124, v125, v126, v127, v128, v129, v130, v131, v132, v133, v134, v135, v136, v137, v138, v139, v140, v141, v142, v143, v144, v145, v146, v147, v148, v149, v150, v151, v152, v153, v154, v155, v156, v157, v158, v159, v160, v161, v162, v163, v164, v165, v166, v167, v168, v169, v170, v171, v172, v173, v174, v175, v176, v177, v178, v179, v180, v181, v182, v183, v184, v185, v186, v187, v188, v189, v190, v191, v192, v193, v194, v195, v196, v197, v198, v199, v200, v201, v202, v203, v204, v205, v206, v207, v208, v209, v210, v211, v212, v213, v214, v215, v216, v217, v218, v219, v220, v221, v222, v223, v224, v225, v226, v227, v228, v229, v230, v231, v232, v233, v234, v235, v236, v237, v238, v239, v240, v241, v242, v243, v244], defers := [] } W := by
  have E1 := Lib.hid (withL_upTo hS)
  have cM := fun W => Many_any S W
  have cO := fun W h => Of_any L lc l W h
  rw [hl] at E1 cM
  clear hl
  have hQ' := Lib.hid hQ
  clear hQ
  show Code.wp _ (Code.region 20 (List.toArray _) true) _ _ _
  dsimp only
  refine wp_region_quiet_below (by kernel_rfl) (by kernel_rfl) ?_
  repeat (first
      | go_big_quiet_skip
      | (go_big_quiet_want; first
          | (go_big_quiet_op; go_big_quiet_on)
          | ((first
              | refine q_go ⟨_, ⟨0, #[]⟩, rfl⟩ (fun K' hk => q_load _ _ rfl _ rfl _ _ _ _ (fun W hW => blk_below (below_of_grow hW) F1 (blk_lt F1)) Tryd.underlying27 rfl (szSetA _) hk) ?_
              | refine q_go ⟨_, ⟨0, #[]⟩, rfl⟩ (fun K' hk => q_load _ _ rfl _ rfl _ _ _ _ (fun W hW => blk_below (below_of_grow hW) F2 (blk_lt F2)) Tryd.underlying27 rfl (szSetA _) hk) ?_
              | refine q_go ⟨_, ⟨0, #[]⟩, rfl⟩ (fun K' hk => q_call1 19 _ _ rfl (.agg (setA _)) rfl (by kernel_rfl) _ (fresh_grow (fun W _ => cM W)) hk) ?_
              | refine q_go ⟨_, ⟨0, #[]⟩, rfl⟩ (fun K' hk => q_call1 10 _ _ rfl (.slice _ _ _) rfl (by kernel_rfl) _ (fresh_grow (fun W hW => cO W (hLr.below hW))) hk) ?_
              | refine q_go ⟨_, ⟨0, #[]⟩, rfl⟩ (fun K' hk => q_sets_eqb _ _ _ _ rfl rfl rfl hS hSt _ hbo.out hk) ?_
              | refine q_go ⟨_, ⟨0, #[]⟩, rfl⟩ (fun K' hk => q_sets_ne _ _ _ _ rfl rfl rfl (withL_sm _ sm_zero) E1.out hk) ?_); go_big_quiet_op; go_big_quiet_on)))
  refine wpQuiet_nil ?_
  intro W9 hW9
  exact hQ'.out _ _ _ _ _ _ _ _ _ _ _ _ _ _ _ _ _ _ _ _ _ _ _ _ _ _ _ _ _ _  W9 (below_of_grow hW9)

set_option maxRecDepth 100000 in
set_option maxHeartbeats 4000000 in
theorem laws_20_some {v0 v1 v2 v3 v4 v5 v6 v9 v11 v12 v13 v15 v16 v17 v18 v19 v20 v21 v22 v23 v24 v25 v26 v27 v28 v29 v30 v31 v32 v33 v34 v35 v36 v37 v38 v39 v40 v41 v42 v43 v44 v45 v46 v47 v48 v49 v50 v51 v52 v53 v54 v55 v56 v57 v58 v59 v60 v61 v62 v63 v64 v65 v66 v67 v68 v69 v70 v71 v72 v73 v74 v75 v76 v77 v78 v79 v80 v81 v82 v83 v84 v85 v86 v87 v88 v89 v90 v91 v92 v93 v94 v95 v96 v97 v98 v99 v100 v101 v102 v103 v104 v105 v106 v107 v108 v109 v110 v111 v112 v113 v114 v115 v116 v117 v118 v119 v120 v121 v122 v123 v124 v125 v126 v127 v128 v129 v130 v131 v132 v133 v134 v135 v136 v137 v138 v139 v140 v141 v142 v143 v144 v145 v146 v147 v148 v149 v150 v151 v152 v153 v154 v155 v156 v157 v158 v159 v160 v161 v162 v163 v164 v165 v166 v167 v168 v169 v170 v171 v172 v173 v174 v175 v176 v177 v178 v179 v180 v181 v182 v183 v184 v185 v186 v187 v188 v189 v190 v191 v192 v193 v194 v195 v196 v197 v198 v199 v200 v201 v202 v203 v204 v205 v206 v207 v208 v209 v210 v211 v212 v213 v214 v215 v216 v217 v218 v219 v220 v221 v222 v223 v224 v225 v226 v227 v228 v229 v230 v231 v232 v233 v234 v235 v236 v237 v238 v239 v240 v241 v242 v243 v244 : Value} {g S T : Nat} (hS : Sm S) (hSt : Sm T) {bo : Bool} (hbo : Hid (decide (S = T) = bo)) {L : Option Addr} {l : List Int} {lc : Nat} (hl : upTo S 1024 = l) {W : World} (hLr : RI W L l) (hTr : Tab W) (hl0 : l ≠ []) {Q : Exit → Act → World → Prop}
    (F1 : W.heap[g]? = some (.cells (setA S) 27 (0, 0))) (F2 : W.heap[g + 1]? = some (.cells (setA T) 27 (0, 0)))
    (hQ : ∀ (s122 s123 s124 s125 s126 s127 s128 s129 s130 s131 s132 s133 s134 s135 s136 s137 s138 s139 s140 s141 s142 s143 s144 s145 s146 s147 s148 s149 s150 s151 : Value) (W' : World), Below W.heap.size W W' → Q .normal { tmps := #[v0, v1, v2, v3, v4, v5, v6, .pointer (some ⟨g, 0, none⟩), .pointer (some ⟨g + 1, 0, none⟩), v9, .bool bo, v11, v12, v13, .slice L l.length lc, v15, v16, v17, v18, v19, v20, v21, v22, v23, v24, v25, v26, v27, v28, v29, v30, v31, v32, v33, v34, v35, v36, v37, v38, v39, v40, v41, v42, v43, v44, v45, v46, v47, v48, v49, v50, v51, v52, v53, v54, v55, v56, v57, v58, v59, v60, v61, v62, v63, v64, v65, v66, v67, v68, v69, v70, v71, v72, v73, v74, v75, v76, v77, v78, v79, v80, v81, v82, v83, v84, v85, v86, v87, v88, v89, v90, v91, v92, v93, v94, v95, v96, v97, v98, v99, v100, v101, v102, v103, v104, v105, v106, v107, v108, v109, v110, v111, v112, v113, v114, v115, v116, v117, v118, v119, v120, v121, s122, s123, s124, s125, s126, s127, s128, s129, s130, s131, s132, s133, s134, s135, s136, s137, s138, s139, s140, s141, s142, s143, s144, s145, s146, s147, s148, s149, s150, s151, .bool false, v153, v154, v155, v156, v157, v158, v159, v160, v161, v162, v163, v164, v165, v166, v167, v168, v169, v170, v171, v172, v173, v174, v175, v176, v177, v178, v179, v180, v181, v182, v183, v184, v185, v186, v187, v188, v189, v190, v191, v192, v193, v194, v195, v196, v197, v198, v199, v200, v201, v202, v203, v204, v205, v206, v207, v208, v209, v210, v211, v212, v213, v214, v215, v216, v217, v218, v219, v220, v221, v222, v223, v224, v225, v226, v227, v228, v229, v230, v231, v232, v233, v234, v235, v236, v237, v238, v239, v240, v241, v242, v243, v244], defers := [] } W') :
    (hdc (hdc (tl (tl (tl (tl (tl (tl (tl (tl (bodyOf Tryd.f4)))))))))) ).wp Tryd.prog Q { tmps := #[v0, v1, v2, v3, v4, v5, v6, .pointer (some ⟨g, 0, none⟩), .pointer (some ⟨g + 1, 0, none⟩), v9, .bool bo, v11, v12, v13, .slice L l.length lc, v15, v16, v17, v18, v19, v20, v21, v22, v23, v24, v25, v26, v27, v28, v29, v30, v31, v32, v33, v34, v35, v36, v37, v38, v39, v40, v41, v42, v43, v44, v45, v46, v47, v48, v49, v50, v51, v52, v53, v54, v55, v56, v57, v58, v59, v60, v61, v62, v63, v64, v65, v66, v67, v68, v69, v70, v71, v72, v73, v74, v75, v76, v77, v78, v79, v80, v81, v82, v83, v84, v85, v86, v87, v88, v89, v90, v91, v92, v93, v94, v95, v96, v97, v98, v99, v100, v101, v102, v103, v104, v105, v106, v107, v108, v109, v110, v111, v112, v113, v114, v115, v116, v117, v118, v119, v120, v121, v122, v123, v124, v125, v126, v127, v128, v129, v130, v131, v132, v133, v134, v135, v136, v137, v138, v139, v140, v141, v142, v143, v144, v145, v146, v147, v148, v149, v150, v151, v152, v153, v154, v155, v156, v157, v158, v159, v160, v161, v162, v163, v164, v165, v166, v167, v168, v169, v170, v171, v172, v173, v174, v175, v176, v177, v178, v179, v180, v181, v182, v183, v184, v185, v186, v187, v188, v189, v190, v191, v192, v193, v194, v195, v196, v197, v198, v199, v200, v201, v202, v203, v204, v205, v206, v207, v208, v209, v210, v211, v212, v213, v214, v215, v216, v217, v218, v219, v220, v221, v222, v223, v224, v225, v226, v227, v228, v229, v230, v231, v232, v233, v234, v235, v236, v237, v238, v239, v240, v241, v242, v243, v244], defers := [] } W := by
  have E1 := Lib.hid (withL_upTo hS)
  have cM := fun W => Many_any S W
  have cO := fun W h => Of_any L lc l W h
  rw [hl] at E1 cM
  have cF := fun W h => First_any S W h
  rw [firstN, hl] at cF
  have hlp : 0 < l.length := List.length_pos_iff.2 hl0
  have hd5 : decide ((l.length : Int) > 0) = true := decide_eq_true (by omega)
  obtain ⟨b, off, rfl, hbl, hc0, hm64⟩ := hLr.at_ hlp
  have hh : l.head?.getD (-1) = gI l 0 := by
    cases l with
    | nil => exact absurd rfl hl0
    | cons x r => rfl
  rw [hh] at cF
  have hc1 : ∀ W', Below W.heap.size W W' → W'.cell? ⟨b, off, none⟩ = some (.int .i64 (gI l 0)) := fun W' h => (h.cell (p := ⟨b, off, none⟩) hbl).trans hc0
  clear hl
  have hQ' := Lib.hid hQ
  clear hQ
  show Code.wp _ (Code.region 20 (List.toArray _) true) _ _ _
  dsimp only
  refine wp_region_quiet_below (by kernel_rfl) (by kernel_rfl) ?_
  repeat (first
      | go_big_quiet_skip
      | (go_big_quiet_want; first
          | (go_big_quiet_op; go_big_quiet_on)
          | ((first
              | refine q_go ⟨_, ⟨0, #[]⟩, rfl⟩ (fun K' hk => q_load _ _ rfl _ rfl _ _ _ _ (fun W hW => blk_below (below_of_grow hW) F1 (blk_lt F1)) Tryd.underlying27 rfl (szSetA _) hk) ?_
              | refine q_go ⟨_, ⟨0, #[]⟩, rfl⟩ (fun K' hk => q_load _ _ rfl _ rfl _ _ _ _ (fun W hW => blk_below (below_of_grow hW) F2 (blk_lt F2)) Tryd.underlying27 rfl (szSetA _) hk) ?_
              | refine q_go ⟨_, ⟨0, #[]⟩, rfl⟩ (fun K' hk => q_call1 19 _ _ rfl (.agg (setA _)) rfl (by kernel_rfl) _ (fresh_grow (fun W _ => cM W)) hk) ?_
              | refine q_go ⟨_, ⟨0, #[]⟩, rfl⟩ (fun K' hk => q_call1 10 _ _ rfl (.slice _ _ _) rfl (by kernel_rfl) _ (fresh_grow (fun W hW => cO W (hLr.below hW))) hk) ?_
              | refine q_go ⟨_, ⟨0, #[]⟩, rfl⟩ (fun K' hk => q_sets_eqb _ _ _ _ rfl rfl rfl hS hSt _ hbo.out hk) ?_
              | refine q_go ⟨_, ⟨0, #[]⟩, rfl⟩ (fun K' hk => q_sets_ne _ _ _ _ rfl rfl rfl (withL_sm _ sm_zero) E1.out hk) ?_
              | refine q_go ⟨_, ⟨0, #[]⟩, rfl⟩ (fun K' hk => q_call1 20 _ _ rfl (.agg (setA _)) rfl (by kernel_rfl) _ (fresh_grow (fun W hW => cF W (hTr.below hW))) hk) ?_
              | refine q_go ⟨_, ⟨0, #[]⟩, rfl⟩ (fun K' hk => q_load1 _ _ rfl _ rfl .i64 Tryd.underlying3 _ (fun W hW => hc1 W (below_of_grow hW)) hk) ?_); go_big_quiet_op; go_big_quiet_on)))
  refine wpQuiet_nil ?_
  intro W9 hW9
  exact hQ'.out _ _ _ _ _ _ _ _ _ _ _ _ _ _ _ _ _ _ _ _ _ _ _ _ _ _ _ _ _ _  W9 (below_of_grow hW9)

end Go.Proofs.YtjichaeegheacaaDoor
