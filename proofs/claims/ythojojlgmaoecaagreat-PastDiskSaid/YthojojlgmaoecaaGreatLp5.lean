/- The examples of chapter 05, without a program. -/
import Derived.Test.YthojojlgmaoecaaGreatLw5
set_option linter.all false
set_option maxRecDepth 100000
set_option maxHeartbeats 400000
namespace Go.Proofs.YthojojlgmaoecaaGreat
open Go.Am
theorem ltr_ne {x y : Int} (h : x ≠ y) : ltr x ≠ ltr y := fun e => by
  have := congrArg (fun l : List Int => l[0]?) e
  simp [ltr] at this
  exact h this
theorem ltr_zb : ltr 0 = zb := rfl
theorem ltr_nz {x : Int} (h : x ≠ 0) : ltr x ≠ zb := fun e => ltr_ne h (e.trans ltr_zb.symm)
def O5 (A B C : List Int) : List OP := [(1, 1, A), (2, 0, zb), (1, 1, B), (1, 2, C), (1, 1, A)]
variable {A B C : List Int}
theorem pe5 : pendL (O5 A B C) 5 = [2, 3, 4] := rfl
theorem af5 (x : Int) : aftF [] (O5 A B C) 5 [true] x = if x = 1 then some B else if x = 1 then some A else none := rfl
theorem nb5 (hB : B ≠ zb) : HeldL (nbF (aftF [] (O5 A B C) 5 [true])) [(1, B)] := ⟨by simp, fun ⟨x, b⟩ => by
  unfold nbF
  rw [af5]
  by_cases h : x = 1
  · subst h
    simp [hB]
    exact eq_comm
  · simp [h]⟩
theorem bk51 (hAB : A ≠ B) : blkL [] (O5 A B C) 5 1 = [A, B] := by
  have e : blkL [] (O5 A B C) 5 1 = addU (addU [A] B) A := rfl
  rw [e]
  simp [addU, hAB.symm]
theorem ok4 : okIm 4 [] := ⟨by decide, by decide, trivial⟩
theorem od4 : ∀ o ∈ O5 A B C, ¬ oddOp 4 o := by
  intro o ho
  simp only [O5, List.mem_cons, List.not_mem_nil, or_false] at ho
  rcases ho with rfl | rfl | rfl | rfl | rfl <;> simp [oddOp]
theorem ol5 (hA : A.length = 1024) (hB : B.length = 1024) (hC : C.length = 1024) : ∀ o ∈ O5 A B C, o.2.2.length = 1024 := by
  intro o ho
  simp only [O5, List.mem_cons, List.not_mem_nil, or_false] at ho
  rcases ho with rfl | rfl | rfl | rfl | rfl
  · exact hA
  · exact zb_len
  · exact hB
  · exact hC
  · exact hA
end Go.Proofs.YthojojlgmaoecaaGreat
