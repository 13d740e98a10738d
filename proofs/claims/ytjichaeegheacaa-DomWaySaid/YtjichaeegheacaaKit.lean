
/-
  Law 10's small functions: place, SameInts, FuncOf.
-/
import Derived.Test.YtjichaeegheacaaTree
import Derived.Test.YtjichaeegheacaaGraph
import Derived.Deep.QuietTactic
namespace Go.Proofs.Ytjichaeegheacaa
open Go Go.RowKit

theorem drewN_below (B : Nat) (w : World) (n : Nat) : Below B w (w.drewN n) := ⟨rfl, rfl, rfl, Nat.le_refl _, fun _ _ => rfl⟩

/-- The first k are alike. -/
def AlikeTo (xs ys : List Int) (k : Nat) : Prop := ∀ i, i < k → gI xs i = gI ys i
theorem ext_gI {xs ys : List Int} (hl : xs.length = ys.length) (h : ∀ i, i < xs.length → gI xs i = gI ys i) : xs = ys := by
  apply List.ext_getElem hl
  intro i h1 h2
  have := h i h1
  rwa [gI_eq h1, gI_eq h2] at this

set_option maxHeartbeats 1000000 in
theorem SameInts_any (A B : Option Addr) (ca cb : Nat) (xs ys : List Int) (w : World) (hx : RI w A xs) (hy : RI w B ys) :
    Calls Try.prog 14 #[.slice A xs.length ca, .slice B ys.length cb] w (Fresh w (.bool (decide (xs = ys)))) := by
  have hl := hx.len
  have hl2 := hy.len
  by_cases hlen : xs.length = ys.length
  · have hd0 : ((xs.length : Int) != (ys.length : Int)) = false := by simp [hlen]
    go_enter Try.func14, Try.ntmps14
    have hlen' := Lib.hid hlen
    clear hlen
    go_wp2
    go_loopw [5] (fun i W => ∃ k : Nat, k ≤ xs.length ∧ i = .int .i64 k ∧ AlikeTo xs ys k ∧ Below w.heap.size w W) (fun i _ => xs.length - (intOf i).toNat)
    case atStart => exact ⟨0, Nat.zero_le _, rfl, fun i hi => absurd hi (Nat.not_lt_zero _), Below.refl _ _⟩
    case round =>
      obtain ⟨k, hk, rfl, hn, hB⟩ := hrel
      by_cases hlt : k < xs.length
      · obtain ⟨b, off, rfl, hbl, hcell, hxi⟩ := (hx.below hB).at_ hlt
        obtain ⟨b2, off2, rfl, hbl2, hcell2, hxi2⟩ := (hy.below hB).at_ (k := k) (by have := hlen'.out; omega)
        have hd : decide ((k : Int) < (xs.length : Int)) = true := decide_eq_true (by omega)
        have hk2 : (k : Int) < (xs.length : Int) := by omega
        have hk3 : (k : Int) < (ys.length : Int) := by have := hlen'.out; omega
        have hk4 : (0 : Int) ≤ (k : Int) := by omega
        by_cases he : gI xs k = gI ys k
        · have he' : (gI xs k != gI ys k) = false := by simpa using he
          have hn2 : AlikeTo xs ys (k + 1) := fun i hi => by
            by_cases e : i = k
            · rw [e]; exact he
            · exact hn i (by omega)
          rw [he] at hcell
          clear he he'
          go_wp2
          go_quiet (fail)
          go_wp2
          go_roundw
          case rel => exact ⟨k + 1, by omega, by go_num, hn2, hB.trans (drewN_below _ _ _)⟩
          case measure => simp [intOf]; omega
        · have he' : (gI xs k != gI ys k) = true := by simpa using he
          have hne : decide (xs = ys) = false := decide_eq_false (fun e => he (by rw [e]))
          have hne' := Lib.hid hne
          clear hne
          go_wp2
          go_quiet (fail)
          go_wp2
          go_ret
          exact ⟨by rw [hne'.out]; rfl, hB.trans (drewN_below _ _ _)⟩
      · obtain rfl : k = xs.length := by omega
        have hd : decide ((xs.length : Int) < (xs.length : Int)) = false := by simp
        have hee := Lib.hid (show decide (xs = ys) = true from decide_eq_true (ext_gI hlen'.out hn))
        go_wp2
        go_ret
        exact ⟨by rw [hee.out]; rfl, hB⟩
  · have hd0 : ((xs.length : Int) != (ys.length : Int)) = true := by simp; omega
    have hne := Lib.hid (show decide (xs = ys) = false from decide_eq_false (fun e => hlen (by rw [e])))
    go_enter Try.func14, Try.ntmps14
    go_wp2
    go_ret
    exact ⟨by rw [hne.out]; rfl, Below.refl _ _⟩

end Go.Proofs.Ytjichaeegheacaa
