/-
  The longest region of law 15: its order.
-/
import Derived.Test.YtjichaeegheacaaDoorBitsTurn
namespace Go.Proofs.YtjichaeegheacaaDoor
open Go Go.RowKit
/-- What follows in a code, what comes first; a region's operations. -/
def tl : Code → Code
  | .seq _ b => b
  | c => c
def hdc : Code → Code
  | .seq a _ => a
  | c => c
def bodyOf (f : Func) : Code := match f.body with
  | some c => c
  | none => .skip
def opsOf : Code → List Oper
  | .region _ ops _ => ops.toList
  | _ => []
/-- The longest region's operations. -/
noncomputable def ops22 : List Oper := opsOf (hdc (tl (tl (tl (tl (tl (tl (tl (tl (tl (bodyOf Tryd.f4)))))))))))
section
variable {md : Region.Mode} {ops : Array Oper}
/-- The order of the text, m operations of it. -/
def lexTo (md : Region.Mode) (ops : Array Oper) : Nat → Nat → Array Bool → Bool
  | 0, _, _ => true
  | m + 1, k, listed => (Region.ready md ops listed).contains k && Region.free md ops listed k && lexTo md ops m (k + 1) (listed.setIfInBounds k true)
def lexAt : Nat → Nat → Array Bool → Array Bool
  | 0, _, listed => listed
  | m + 1, k, listed => lexAt m (k + 1) (listed.setIfInBounds k true)
theorem lexFrom_add : ∀ (m f k : Nat) (listed : Array Bool), lexTo md ops m k listed = true → Region.lexFrom md ops f (k + m) (lexAt m k listed) = true → Region.lexFrom md ops (m + f) k listed = true
  | 0, f, k, listed, _, h => by rw [Nat.zero_add]; exact h
  | m + 1, f, k, listed, h, h2 => by
    simp only [lexTo, Bool.and_eq_true] at h
    rw [show m + 1 + f = (m + f) + 1 by omega]
    simp only [Region.lexFrom, Bool.and_eq_true]
    refine ⟨h.1, lexFrom_add m f (k + 1) _ h.2 ?_⟩
    rw [show k + 1 + m = k + (m + 1) by omega]
    exact h2
end

/-- The first k operations are listed. -/
def lst (k : Nat) : Array Bool := (List.replicate k true ++ List.replicate (93 - k) false).toArray
theorem lex_0 : lexTo .any ops22.toArray 8 0 (lst 0) = true := by kernel_rfl
theorem lst_0 : lexAt 8 0 (lst 0) = lst 8 := by kernel_rfl
theorem lex_8 : lexTo .any ops22.toArray 8 8 (lst 8) = true := by kernel_rfl
theorem lst_8 : lexAt 8 8 (lst 8) = lst 16 := by kernel_rfl
theorem lex_16 : lexTo .any ops22.toArray 8 16 (lst 16) = true := by kernel_rfl
theorem lst_16 : lexAt 8 16 (lst 16) = lst 24 := by kernel_rfl
theorem lex_24 : lexTo .any ops22.toArray 9 24 (lst 24) = true := by kernel_rfl
theorem lst_24 : lexAt 9 24 (lst 24) = lst 33 := by kernel_rfl
theorem lex_33 : lexTo .any ops22.toArray 9 33 (lst 33) = true := by kernel_rfl
theorem lst_33 : lexAt 9 33 (lst 33) = lst 42 := by kernel_rfl
theorem lex_42 : lexTo .any ops22.toArray 10 42 (lst 42) = true := by kernel_rfl
theorem lst_42 : lexAt 10 42 (lst 42) = lst 52 := by kernel_rfl
theorem lex_52 : lexTo .any ops22.toArray 10 52 (lst 52) = true := by kernel_rfl
theorem lst_52 : lexAt 10 52 (lst 52) = lst 62 := by kernel_rfl
theorem lex_62 : lexTo .any ops22.toArray 12 62 (lst 62) = true := by kernel_rfl
theorem lst_62 : lexAt 12 62 (lst 62) = lst 74 := by kernel_rfl
theorem lex_74 : lexTo .any ops22.toArray 19 74 (lst 74) = true := by kernel_rfl
theorem lst_74 : lexAt 19 74 (lst 74) = lst 93 := by kernel_rfl
theorem lex_end : Region.lexFrom .any ops22.toArray 0 93 (lst 93) = true := by kernel_rfl
theorem lex_no : Region.noSelect ops22.toArray = true := by kernel_rfl
theorem h74 : Region.lexFrom .any ops22.toArray 19 74 (lst 74) = true := lexFrom_add 19 0 74 _ lex_74 (by rw [lst_74]; exact lex_end)
theorem h62 : Region.lexFrom .any ops22.toArray 31 62 (lst 62) = true := lexFrom_add 12 19 62 _ lex_62 (by rw [lst_62]; exact h74)
theorem h52 : Region.lexFrom .any ops22.toArray 41 52 (lst 52) = true := lexFrom_add 10 31 52 _ lex_52 (by rw [lst_52]; exact h62)
theorem h42 : Region.lexFrom .any ops22.toArray 51 42 (lst 42) = true := lexFrom_add 10 41 42 _ lex_42 (by rw [lst_42]; exact h52)
theorem h33 : Region.lexFrom .any ops22.toArray 60 33 (lst 33) = true := lexFrom_add 9 51 33 _ lex_33 (by rw [lst_33]; exact h42)
theorem h24 : Region.lexFrom .any ops22.toArray 69 24 (lst 24) = true := lexFrom_add 9 60 24 _ lex_24 (by rw [lst_24]; exact h33)
theorem h16 : Region.lexFrom .any ops22.toArray 77 16 (lst 16) = true := lexFrom_add 8 69 16 _ lex_16 (by rw [lst_16]; exact h24)
theorem h8 : Region.lexFrom .any ops22.toArray 85 8 (lst 8) = true := lexFrom_add 8 77 8 _ lex_8 (by rw [lst_8]; exact h16)
theorem h0 : Region.lexFrom .any ops22.toArray 93 0 (lst 0) = true := lexFrom_add 8 85 0 _ lex_0 (by rw [lst_0]; exact h8)
theorem ops22_size : ops22.toArray.size = 93 := Nat.eq_of_beq_eq_true (by kernel_rfl)
theorem ops22_lex : Region.lexB .any ops22.toArray = true := by
  unfold Region.lexB
  rw [ops22_size, lex_no]
  have e : Array.replicate 93 false = lst 0 := by kernel_rfl
  rw [e, h0]; rfl

end Go.Proofs.YtjichaeegheacaaDoor
