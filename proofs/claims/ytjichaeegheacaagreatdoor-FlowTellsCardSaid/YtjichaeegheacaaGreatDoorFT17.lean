/-
  RefT
-/
import Derived.Test.YtjichaeegheacaaGreatDoorFT16

/-
  The document's answer for package flow: through, Order.
-/
namespace Go.Proofs.YtjichaeegheacaaGreatDoor
open Go Go.RowKit

theorem range_gI (l : List Int) : (List.range l.length).map (fun i => gI l i) = l := by
  apply List.ext_getElem
  · simp
  · intro i h1 h2
    simp at h1
    simp [gI_eq h1]
theorem flt_arm (b : Nat) (l : List Int) (k : Nat) : ((armE b l l.length).filter fun e => decide (e.f = (k : Int))).map (·.t) = if b = k then l else [] := by
  by_cases h : b = k
  · subst h
    rw [if_pos rfl, List.filter_eq_self.2 (fun e he => by
      unfold armE at he
      obtain ⟨i, _, rfl⟩ := List.mem_map.1 he
      simp)]
    unfold armE
    rw [List.map_map]
    exact range_gI l
  · rw [if_neg h, List.filter_eq_nil_iff.2 (fun e he => by
      unfold armE at he
      obtain ⟨i, _, rfl⟩ := List.mem_map.1 he
      simp only [decide_eq_true_eq]
      omega)]
    rfl
theorem flt_to (bs : List Blk) (k : Nat) : ∀ n, ((edgesTo bs n).filter fun e => decide (e.f = (k : Int))).map (·.t) = if k < n then toL (gB bs k).t else []
  | 0 => by simp [edgesTo]
  | n + 1 => by
    rw [edgesTo, List.filter_append, List.map_append, flt_to bs k n, flt_arm]
    by_cases h : n = k
    · subst h; simp
    · by_cases h2 : k < n
      · rw [if_pos h2, if_neg h, if_pos (by omega), List.append_nil]
      · rw [if_neg h2, if_neg h, if_neg (by omega)]; rfl
theorem flt_su {bs : List Blk} {k : Nat} (hk : k < bs.length) : ((edgesOf bs).filter fun e => decide (e.f = (k : Int))).map (·.t) = suB bs (k : Int) := by
  rw [suB_of (bs := bs) (x := (k : Int)) ⟨by omega, by omega⟩]
  have := flt_to bs k bs.length
  rw [if_pos hk] at this
  exact this

/-- What was gone through, as a list. -/
def GoneL (G : Nat) (gl : List Int) : Prop := ∀ x, hasN G x = true ↔ x ∈ gl
theorem GoneL.add {G : Nat} {gl : List Int} (h : GoneL G gl) {b : Int} (hb : inR b = true) : GoneL (withI G b) (gl ++ [b]) := fun x => by
  rw [hasN_with hb, h x, List.mem_append]
  simp

theorem i64_snoc (l : List Int) (x : Int) (h : ∀ y ∈ l, I64 y) (hx : I64 x) : ∀ y ∈ l ++ [x], I64 y := by
  intro y hy
  rw [List.mem_append] at hy
  rcases hy with hy | hy
  · exact h y hy
  · simp at hy; subst hy; exact hx
theorem none_nil {w : World} {A : Option Addr} {xs : List Int} (hr : RI w A xs) : A = none → xs = [] := fun e => by
  by_cases q : 0 < xs.length
  · obtain ⟨b, off, e1, _⟩ := hr.rd q
    rw [e] at e1; cases e1
  · exact List.eq_nil_of_length_eq_zero (by omega)

set_option maxRecDepth 100000 in
set_option maxHeartbeats 4000000 in
theorem thr10_any (bs : List Blk) (hcl : Cl bs) (A : Option Addr) (c : Nat) (fuel : Nat) : ∀ (s : St) (gl : List Int) (d k : Nat) (Ag Ap : Option Addr) (cg cp : Nat) (W : World), k < bs.length → cntG s.G bs.length = s.L.length + d → gl.length = cntG s.G bs.length → bs.length - cntG s.G bs.length < fuel → GoneL s.G gl →
    RE W A (edgesOf bs) → RI W Ag gl → RI W Ap s.L →
    Calls Tryz.prog 65 #[.slice A (edgesOf bs).length c, .int .i64 (k : Int), .slice Ag gl.length cg, .slice Ap s.L.length cp] W fun e W' => ∃ (s' : St) (gl' : List Int) (Ag' Ap' : Option Addr) (cg' cp' : Nat), Thr (suB bs) [(k : Int)] s s' ∧ e = .returned (.tuple #[.slice Ag' gl'.length cg', .slice Ap' s'.L.length cp']) ∧
      GoneL s'.G gl' ∧ gl'.length = cntG s'.G bs.length ∧ cntG s'.G bs.length = s'.L.length + d ∧ RI W' Ag' gl' ∧ RI W' Ap' s'.L ∧ Below W.heap.size W W' := by
  induction fuel with
  | zero => intro s gl d k Ag Ap cg cp W hk hc hgl hf; omega
  | succ fuel ih =>
    intro s gl d k Ag Ap cg cp W hk hc hgl hf hG hE hRg hRp
    have hle := hcl.le
    have hI : I64 (k : Int) := ⟨by omega, by omega⟩
    have hcle := cntG_le s.G bs.length
    have hhas := has10_any Ag cg gl (k : Int) W hRg
    cases hh : hasN s.G (k : Int)
    · have hcf : gl.contains (k : Int) = false := by
        cases hq : gl.contains (k : Int) with
        | false => rfl
        | true => rw [(hG _).2 (List.contains_iff_mem.1 hq)] at hh; cases hh
      rw [hcf] at hhas
      have hkR : inR (k : Int) = true := (inR_iff _).2 ⟨by omega, by omega⟩
      have hGa := hG.add hkR
      have hcn : cntG (withI s.G (k : Int)) bs.length = cntG s.G bs.length + 1 := by rw [cntG_with hkR hh _ (by omega), if_pos (by omega)]
      have hgn := none_nil hRg
      have hb0 : Below W.heap.size W (W.alloc (.cells #[] 3)) := (Below.refl _ _).alloc (Nat.le_refl _) _
      have oW := World.ownsRow_made (base := W.heap.size) (e := 3) (size := 1) W #[] 0 (Nat.le_refl _) (by decide) rfl
      have hRg0 := hRg.below hb0
      have hg64 : ∀ x ∈ gl ++ [(k : Int)], I64 x := i64_snoc gl (k : Int) (fun x h => I64.of_mem hRg.rng h) hI
      have hglh := Lib.hid hgl
      clear hcf hgl
      go_enter Tryz.func65, Tryz.ntmps65
      go_wp2_with fail
      refine hhas.mono ?_
      rintro e W1 ⟨rfl, rfl⟩
      go_wp2_with (first
        | (refine wpList_app rfl _ _ rfl W1.heap.size _ rfl [] oW _ _ _ rfl gl rfl hRg0 hgn hb0.size (by simp; have := hglh.out; omega) ?_; intro v1 W2 ho1 hB1; rw [List.nil_append] at ho1; have hB2 := hb0.trans hB1; have hb3 := (Below.refl W2.heap.size W2).alloc (Nat.le_refl _) (.cells #[.int .i64 (k : Int)] 3); have ho3 := own_below ho1 hb3; have n3 := blk_new W2 (.cells #[.int .i64 (k : Int)] 3); have hB3 := hB2.trans (hb3.mono hB2.size); have hS3 := hB3.size; have hl3 : gl.length ≤ 100000 := by have := hglh.out; omega)
        | (refine wpList_app1 rfl _ _ rfl W1.heap.size _ rfl gl ho3 _ _ (k : Int) rfl n3 hS3 hl3 ?_; intro v2 W4 ho4 hg4 _))
      have hB4 := grown_up ho3 hB3 hg4 hS3
      obtain ⟨Ag1, cg1, rfl, _, hRg1⟩ := own_RI ho4 hg64 (by rw [List.length_append]; simp; have := hglh.out; omega)
      have hE4 := hE.below hB4
      have hRp4 := hRp.below hB4
      have hgl1 : (gl ++ [(k : Int)]).length = cntG (withI s.G (k : Int)) bs.length := by
        rw [hcn, ← hglh.out, List.length_append]; rfl
      have hflt := flt_su hk
      have hel := edgesTo_len bs bs.length
      have hll : ∀ L' : List Ed, L' = edgesOf bs → L'.length ≤ 2 * bs.length := fun L' e => by rw [e]; exact hel
      have hel' := hll _ rfl
      have hemem := fun {i : Nat} (hi : i < (edgesOf bs).length) => edge_su (gE_mem hi)
      have hgo' := Lib.hid hcl.go
      have hinR' := Lib.hid hcl.inR
      have hthr' := Lib.hid (fun s1 (h : Thr (suB bs) (suB bs (k : Int)) ⟨withI s.G (k : Int), s.L⟩ s1) => (Thr.go hh h (.nil _) : Thr (suB bs) [(k : Int)] s ⟨s1.G, (k : Int) :: s1.L⟩))
      generalize hGG : withI s.G (k : Int) = G at *
      generalize hg2 : gl ++ [(k : Int)] = gl2 at *
      obtain ⟨es, hes⟩ : ∃ es, edgesOf bs = es := ⟨_, rfl⟩
      rw [hes] at hE4 hflt hel' hemem ih ⊢
      have hflt' := Lib.hid hflt
      have hes' := Lib.hid hes
      have hcn' := Lib.hid hcn
      have hcGl := cntG_le G bs.length
      have hgl1' := Lib.hid hgl1
      have hc' := Lib.hid hc
      clear hGG hg2 ho4 hg4 ho3 ho1 n3 hb3 hB1 hB2 hB3 hb0 oW hRg0 hhas hgn hE hRg hRp hG hflt hes hcn hgl1 hel hll hc hg64
      go_loopw [2, 3, 10] (fun v2 v3 v10 Wl => ∃ (i : Nat) (s1 : St) (g1 : List Int) (Ag Ap : Option Addr) (cg cp : Nat), i ≤ es.length ∧ v10 = .int .i64 i ∧ v2 = .slice Ag g1.length cg ∧ v3 = .slice Ap s1.L.length cp ∧ Thr (suB bs) (((es.take i).filter fun e => decide (e.f = (k : Int))).map (·.t)) ⟨G, s.L⟩ s1 ∧ GoneL s1.G g1 ∧ g1.length = cntG s1.G bs.length ∧ cntG s1.G bs.length = s1.L.length + (d + 1) ∧ cntG G bs.length ≤ cntG s1.G bs.length ∧ RE Wl A es ∧ RI Wl Ag g1 ∧ RI Wl Ap s1.L ∧ Below W1.heap.size W1 Wl) (fun _ _ v10 _ => es.length - (intOf v10).toNat)
      case atStart => exact ⟨0, ⟨G, s.L⟩, gl2, Ag1, Ap, cg1, cp, Nat.zero_le _, rfl, rfl, rfl, .nil _, hGa, hgl1'.out, by have h1 := hcn'.out; have h2 := hc'.out; simp only; omega, Nat.le_refl _, hE4, hRg1, hRp4, hB4⟩
      case round =>
        clear hGa hE4 hRg1 hRp4 hB4
        obtain ⟨i, s1, g1, Ag2, Ap2, cg2, cp2, hi, rfl, rfl, rfl, hth, hG1, hl1, hc1, hm1, hE1, hR1, hP1, hb1⟩ := hrel
        have hl1' := Lib.hid hl1
        have hc1' := Lib.hid hc1
        clear hl1 hc1
        by_cases hil : i < es.length
        · have hd : decide ((i : Int) < (es.length : Int)) = true := decide_eq_true (by omega)
          have hi2 : (i : Int) < (es.length : Int) := by omega
          have hi4 : (0 : Int) ≤ (i : Int) := by omega
          obtain ⟨be, oe, rfl, hbe, hce⟩ := hE1.rd i hil
          obtain ⟨h1, h2, h3⟩ := hce wr (Below.refl _ _)
          have hts := filter_take_succ (p := fun x : Ed => decide (x.f = (k : Int))) hil
          have hes2 := hemem hil
          have hts' := Lib.hid hts
          have hes2' := Lib.hid hes2
          clear hts hce hes2
          by_cases he : (gE es i).f = (k : Int)
          · have d3 : ((gE es i).f == (k : Int)) = true := by simpa using he
            obtain ⟨k2, hk2, hk2l⟩ : ∃ k2 : Nat, (gE es i).t = (k2 : Int) ∧ k2 < bs.length := by
              obtain ⟨q1, q2⟩ := hgo'.out _ hes2'.out.1 _ hes2'.out.2
              exact ⟨(gE es i).t.toNat, by omega, by omega⟩
            have hlist : ((es.take (i + 1)).filter fun e => decide (e.f = (k : Int))).map (·.t) = ((es.take i).filter fun e => decide (e.f = (k : Int))).map (·.t) ++ [(k2 : Int)] := by
              rw [hts'.out, decide_eq_true he, List.map_append, ← hk2]; rfl
            rw [hk2] at h3
            have hlist' := Lib.hid hlist
            clear he hk2 hlist
            have hcall := ih s1 g1 (d + 1) k2 Ag2 Ap2 cg2 cp2 wr hk2l hc1'.out hl1'.out (by have := hcn'.out; omega) hG1 hE1 hR1 hP1
            go_wp2_with fail
            refine hcall.mono ?_
            rintro e W6 ⟨s2, g2, Ag3, Ap3, cg3, cp3, hth2, rfl, hG2, hl2, hc2, hR2, hP2, hb2⟩
            have hth3 : Thr (suB bs) (((es.take (i + 1)).filter fun e => decide (e.f = (k : Int))).map (·.t)) ⟨G, s.L⟩ s2 := by
              rw [hlist'.out]
              exact hth.append hth2
            have hmono : cntG s1.G bs.length ≤ cntG s2.G bs.length := by
              obtain ⟨N, q1, _⟩ := Thr.adds hgo'.out hinR'.out hth2 (fun x hx => by simp at hx; subst hx; exact ⟨by omega, by omega⟩)
              rw [hc2, hc1'.out, q1]; simp
            have hE2 := hE1.below hb2
            have hb3 := hb1.trans (hb2.mono hb1.size)
            have hl2' := Lib.hid hl2
            have hc2' := Lib.hid hc2
            clear hth hth2 hl2 hc2 hb2
            go_wp2
            go_roundw
            case rel => exact ⟨i + 1, s2, g2, Ag3, Ap3, cg3, cp3, by omega, by go_num, rfl, rfl, hth3, hG2, hl2'.out, hc2'.out, by omega, hE2, hR2, hP2, hb3⟩
            case measure => simp [intOf]; omega
          · have d3 : ((gE es i).f == (k : Int)) = false := by simpa using he
            have hlist : ((es.take (i + 1)).filter fun e => decide (e.f = (k : Int))).map (·.t) = ((es.take i).filter fun e => decide (e.f = (k : Int))).map (·.t) := by
              rw [hts'.out, decide_eq_false he]; simp
            rw [← hlist] at hth
            clear he hlist
            go_wp2
            go_roundw
            case rel => exact ⟨i + 1, s1, g1, Ag2, Ap2, cg2, cp2, by omega, by go_num, rfl, rfl, hth, hG1, hl1'.out, hc1'.out, hm1, hE1, hR1, hP1, hb1⟩
            case measure => simp [intOf]; omega
        · obtain rfl : i = es.length := by omega
          have hd : decide ((es.length : Int) < (es.length : Int)) = false := by simp
          rw [List.take_length, hflt'.out] at hth
          have hfin := hthr'.out s1 hth
          have hcle2 := cntG_le s1.G bs.length
          have hb7 := (Below.refl wr.heap.size wr).alloc (Nat.le_refl _) (.cells #[.int .i64 (k : Int)] 3)
          have ho7 : (wr.alloc (.cells #[.int .i64 (k : Int)] 3)).ownsRow wr.heap.size 3 1 (.slice (some ⟨wr.heap.size, 0, none⟩) 1 1) [(k : Int)].length ([(k : Int)].map (Value.int .i64)) :=
            ⟨rfl, .inr ⟨wr.heap.size, 1, #[.int .i64 (k : Int)], rfl, Nat.le_refl _, blk_new wr _, by simp, by decide, rfl, rfl⟩⟩
          have hP7 := hP1.below hb7
          have hPn := none_nil hP1
          have hp64 : ∀ x ∈ [(k : Int)] ++ s1.L, I64 x := fun x hx => by
            rcases List.mem_append.1 hx with h | h
            · simp at h; subst h; exact hI
            · exact I64.of_mem hP1.rng h
          have hlb : s1.L.length ≤ 1000 := by have := hc1'.out; omega
          go_wp2_with (refine wpList_app rfl _ _ rfl wr.heap.size _ rfl [(k : Int)] ho7 _ _ _ rfl s1.L rfl hP7 hPn hb7.size (by simp; omega) ?_; intro v9 W8 ho8 hB8)
          obtain ⟨Ap4, cp4, rfl, _, hR8⟩ := own_RI ho8 hp64 (by simp; omega)
          have hbb := hb7.trans (hB8.mono (Nat.le_refl _))
          go_ret2
          exact ⟨⟨s1.G, (k : Int) :: s1.L⟩, g1, Ag2, Ap4, cg2, cp4, hfin, rfl, hG1, hl1'.out, by have := hc1'.out; simp only [List.length_cons]; omega, hR1.below hbb, hR8, hb1.trans (hbb.mono hb1.size)⟩
    · have hct : gl.contains (k : Int) = true := List.contains_iff_mem.2 ((hG _).1 hh)
      rw [hct] at hhas
      have hgl' := Lib.hid hgl
      have hc' := Lib.hid hc
      clear hgl hc
      go_enter Tryz.func65, Tryz.ntmps65
      go_wp2_with fail
      refine hhas.mono ?_
      rintro e W1 ⟨rfl, rfl⟩
      go_wp2
      go_ret2
      exact ⟨s, gl, Ag, Ap, cg, cp, .skip hh (.nil s), rfl, hG, hgl'.out, hc'.out, hRg, hRp, Below.refl _ _⟩

set_option maxRecDepth 100000 in
set_option maxHeartbeats 1000000 in
theorem Order10_no (P : Value) (A : Option Addr) (c : Nat) (bs : List Blk) (w : World) (hr : RF w A bs) (hl : bs.length ≤ 1000) (hcl : closedB bs = false) :
    Calls Tryz.prog 25 #[.agg #[P, .slice A bs.length c]] w (Fresh w (.slice none 0 0)) := by
  have hb0 := (Below.refl w.heap.size w).alloc (Nat.le_refl _) (.cells #[P, .slice A bs.length c] 25)
  have hs := blk_new w (.cells #[P, .slice A bs.length c] 25)
  have q := Closed10_any P A c bs _ (hr.below hb0) hl
  rw [hcl] at q
  go_enter Tryz.func25, Tryz.ntmps25
  go_wp2_with (refine wpList_load_row rfl _ _ rfl _ rfl _ _ _ _ hs Tryz.underlying25 rfl (by kernel_rfl) ?_)
  refine q.mono ?_
  rintro e W1 ⟨rfl, hb1⟩
  go_wp2
  go_ret
  exact ⟨rfl, hb0.trans (hb1.mono hb0.size)⟩
set_option maxRecDepth 100000 in
set_option maxHeartbeats 1000000 in
theorem Order10_yes (P : Value) (A : Option Addr) (c : Nat) (bs : List Blk) (w : World) (hr : RF w A bs) (hcl : closedB bs = true) :
    Calls Tryz.prog 25 #[.agg #[P, .slice A bs.length c]] w fun e w' => ∃ (l : List Int) (Al : Option Addr) (cl : Nat), OrderIs bs l ∧ e = .returned (.slice Al l.length cl) ∧ RI w' Al l ∧ Below w.heap.size w w' := by
  have hc := closed_cl hr.ok hcl
  have hle := hc.le
  have hpos := hc.pos
  have hb0 := (Below.refl w.heap.size w).alloc (Nat.le_refl _) (.cells #[P, .slice A bs.length c] 25)
  have hs := blk_new w (.cells #[P, .slice A bs.length c] 25)
  have q := Closed10_any P A c bs _ (hr.below hb0) (by omega)
  rw [hcl] at q
  go_enter Tryz.func25, Tryz.ntmps25
  go_wp2_with (refine wpList_load_row rfl _ _ rfl _ rfl _ _ _ _ hs Tryz.underlying25 rfl (by kernel_rfl) ?_)
  refine q.mono ?_
  rintro e W1 ⟨rfl, hb1⟩
  have hs1 := blk_below hb1 hs (blk_lt hs)
  have hB := hb0.trans (hb1.mono hb0.size)
  go_wp2_with (refine wpList_load_row rfl _ _ rfl _ rfl _ _ _ _ hs1 Tryz.underlying25 rfl (by kernel_rfl) ?_)
  refine (all10_any P A c bs W1 (hr.below hB) (by omega)).mono ?_
  intro e W2 hf
  obtain ⟨v, rfl, ho, hb2⟩ := OwnEds.mono hB hf
  have hel := edgesTo_len bs bs.length
  rw [show edgesTo bs bs.length = edgesOf bs from rfl] at hel
  obtain ⟨A1, c1, rfl, _, hE⟩ := own_RE ho (by omega)
  have hcall := thr10_any bs hc A1 c1 (bs.length + 1) ⟨0, []⟩ [] 0 0 none none 0 0 W2 hpos (cntG_zero _) (cntG_zero _).symm (by have := cntG_le 0 bs.length; simp only; omega) (fun x => by
    constructor
    · intro h
      unfold hasN at h
      rw [Nat.zero_testBit, Bool.and_false] at h
      cases h
    · intro h; cases h) hE (RI.nil _ _) (RI.nil _ _)
  clear ho hf q
  go_wp2_with fail
  refine hcall.mono ?_
  rintro e W3 ⟨s', gl', Ag, Ap, cg, cp, hth, rfl, _, _, _, _, hRp, hb3⟩
  go_wp2
  go_ret
  exact ⟨s'.L, Ap, cp, ⟨s', hth, rfl⟩, rfl, hRp, hb2.trans (hb3.mono hb2.size)⟩

end Go.Proofs.YtjichaeegheacaaGreatDoor
