
/-
  Package flow: Critical.
-/
import Derived.Test.YtjichaeegheacaaInto
import Derived.Maps.OwnIn
import Derived.Maps.OwnOps
import Derived.Maps.OwnSet
import Derived.Maps.Views
import Derived.Laws.EntriesVeiled
namespace Go.Proofs.Ytjichaeegheacaa
open Go Go.RowKit Go.Maps
attribute [local go_sem] Oper.semAt_some

/-- How many edges have this at x. -/
def cntE (g : Ed → Int) (es : List Ed) (x : Int) : Nat := (es.filter fun e => decide (g e = x)).length
theorem cntE_snoc (g : Ed → Int) (es : List Ed) (e : Ed) (x : Int) : cntE g (es ++ [e]) x = cntE g es x + if g e = x then 1 else 0 := by
  unfold cntE
  rw [List.filter_append, List.length_append]
  by_cases h : g e = x <;> simp [h]
theorem cntE_le (g : Ed → Int) (es : List Ed) (x : Int) : cntE g es x ≤ es.length := List.length_filter_le _ _

/-- What a map of counts reads. -/
def Tal (D : DataW Unit) (g : Ed → Int) (es : List Ed) : Prop := ∀ x, I64 x → D.atKey (.int .i64 x) (.lit (.int .i64 0)) = .lit (.int .i64 (cntE g es x))
theorem wf_of {x : Int} (h : I64 x) : (Lit.int .i64 x).wf = true := by obtain ⟨h1, h2⟩ := h; exact WalkArith.wf_i64 (by omega)
theorem Tal.nil (g : Ed → Int) : Tal (.map []) g [] := fun _ _ => rfl
theorem Tal.snoc {D : DataW Unit} {g : Ed → Int} {es : List Ed} (h : Tal D g es) (hm : IsMap D) {e : Ed} {c : Int} (he : I64 (g e)) (hc : D.atKey (.int .i64 (g e)) (.lit (.int .i64 0)) = .lit (.int .i64 c)) :
    c = cntE g es (g e) ∧ Tal (D.put (.int .i64 (g e)) (.lit (.int .i64 (c + 1)))) g (es ++ [e]) := by
  have hcc : c = cntE g es (g e) := by
    have := (h _ he).symm.trans hc
    injection this with this
    injection this with _ this
    exact this.symm
  refine ⟨hcc, fun x hx => ?_⟩
  rw [cntE_snoc]
  by_cases hq : g e = x
  · subst hq
    rw [atKey_put_same hm (show WideAt.IsKeyLit (.int .i64 (g e)) from trivial), if_pos rfl, hcc]
    congr 2
  · rw [atKey_put_other (fun q => hq (by injection q with _ q; exact q.symm)), h x hx, if_neg hq]
    rfl

theorem Tal.bd {D : DataW Unit} {g : Ed → Int} {es : List Ed} (h : Tal D g es) {x c : Int} (hx : I64 x) (hc : D.atKey (.int .i64 x) (.lit (.int .i64 0)) = .lit (.int .i64 c)) : 0 ≤ c ∧ c ≤ es.length := by
  have := (h x hx).symm.trans hc
  injection this with this
  injection this with _ this
  have := cntE_le g es x
  omega

theorem zeroInt (w : World) : (zeroValue 3).run Try.prog w = .ok (.int .i64 0) w := by kernel_rfl

/-- Is an edge critical? -/
def critB (es : List Ed) (e : Ed) : Bool := decide (1 < cntE (·.t) es e.t) && decide (1 < cntE (·.f) es e.f)

abbrev OwnM (W : World) (b n : Nat) (D : DataW Unit) : Prop := W.ownsMap Try.prog 3 (plainElem (H := Unit) Try.prog 3) b n D
/-- The two maps, after some edges. -/
def Tallied (mi mo : Nat) (pre : List EdI) (W : World) : Prop :=
  ∃ D1 D2, OwnM W mi pre.length D1 ∧ OwnM W mo pre.length D2 ∧ Tal D1 (·.t) (unE pre) ∧ Tal D2 (·.f) (unE pre)

end Go.Proofs.Ytjichaeegheacaa
