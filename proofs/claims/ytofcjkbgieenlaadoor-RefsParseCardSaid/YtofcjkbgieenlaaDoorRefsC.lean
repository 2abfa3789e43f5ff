/- Contracts of functions of the reference: front, path, domain, part. By an AI agent. -/
import Derived.Test.YtofcjkbgieenlaaDoorRefsB
namespace Go.Proofs.YtofcjkbgieenlaaDoor.PM
open Go Go.Proofs
set_option maxRecDepth 100000
set_option linter.unusedVariables false

theorem cutFrom_size (s : ByteArray) (c : Int) : ∀ (d i : Nat) (xs : List ByteArray), i + d = s.size → (∀ x ∈ xs, x.size ≤ i) → ∀ x ∈ cutFrom s c d xs i, x.size ≤ s.size
  | 0, i, xs, hi, hx, x, h => by have := hx x h; omega
  | d + 1, i, xs, hi, hx, x, h => by
    refine cutFrom_size s c d (i + 1) (cutStep s c xs i) (by omega) (fun y hy => ?_) x h
    unfold cutStep at hy
    cases hb : (bt s i == c) <;> rw [hb] at hy <;> simp only [Bool.false_eq_true, if_true, if_false] at hy
    · rcases List.mem_or_eq_of_mem_set hy with hy | rfl
      · have := hx y hy; omega
      · rw [ByteArray.size_append, ByteArray.size_extract]
        have : (xs.getD (xs.length - 1) (ByteArray.mk #[])).size ≤ i := by
          rw [List.getD_eq_getElem?_getD]
          cases he : xs[xs.length - 1]? with
          | none => exact Nat.zero_le _
          | some y => exact hx y (List.mem_of_getElem? he)
        omega
    · rcases List.mem_append.1 hy with hy | hy
      · have := hx y hy; omega
      · rw [List.mem_singleton.1 hy]; exact Nat.zero_le _
theorem cutAll_size (s : ByteArray) (c : Int) (i : Nat) : ((cutAll s c).getD i (ByteArray.mk #[])).size ≤ s.size := by
  rw [List.getD_eq_getElem?_getD]
  cases he : (cutAll s c)[i]? with
  | none => exact Nat.zero_le _
  | some y => exact cutFrom_size s c s.size 0 _ (Nat.zero_add _) (fun x hx => by rw [List.mem_singleton.1 hx]; exact Nat.zero_le _) y (List.mem_of_getElem? he)
theorem cutStep_len (s : ByteArray) (c : Int) (xs : List ByteArray) (i : Nat) : xs.length ≤ (cutStep s c xs i).length ∧ (cutStep s c xs i).length ≤ xs.length + 1 := by
  unfold cutStep
  split <;> simp
theorem cutFrom_len (s : ByteArray) (c : Int) : ∀ (d i : Nat) (xs : List ByteArray), xs.length ≤ (cutFrom s c d xs i).length ∧ (cutFrom s c d xs i).length ≤ xs.length + d
  | 0, i, xs => ⟨Nat.le_refl _, Nat.le_refl _⟩
  | d + 1, i, xs => by
    have := cutFrom_len s c d (i + 1) (cutStep s c xs i)
    have := cutStep_len s c xs i
    unfold cutFrom
    omega
theorem cutAll_len (s : ByteArray) (c : Int) : 1 ≤ (cutAll s c).length ∧ (cutAll s c).length ≤ 1 + s.size := cutFrom_len s c s.size 0 [ByteArray.mk #[]]

abbrev isS (s : ByteArray) (l : List UInt8) : Bool := s.toList == (ByteArray.mk l.toArray).toList
def frontS (s : ByteArray) : ByteArray :=
  bif decide (((cutAll s 47).length : Int) > 1) && (decide (((cutAll ((cutAll s 47).getD 0 (ByteArray.mk #[])) 46).length : Int) > 1) || (decide (((cutAll ((cutAll s 47).getD 0 (ByteArray.mk #[])) 58).length : Int) > 1) ||
    isS ((cutAll s 47).getD 0 (ByteArray.mk #[])) [108, 111, 99, 97, 108, 104, 111, 115, 116])) then (cutAll s 47).getD 0 (ByteArray.mk #[]) else ByteArray.mk #[]
def frontG : Pure
  | [.string s] => some (s.size < 2 ^ 40, .string (frontS s))
  | _ => none
theorem front_ok : PureOk Tryd.prog 25 frontG := by
  refine .of_run (call := callOf [(23, memS cutG)]) (hint := hints 25) (tb := noTab) hm (callOf_cons cut_ok.spec callOf_nil) Tryd.func25 (by kernel_rfl) rfl (by kernel_rfl) (by repeat' first | exact trivial | constructor |  (intro _ h; cases h)) fun args c r h => ?_
  unfold frontG at h
  split at h
  · rename_i s
    cases h
    refine ⟨rfl, fun hs => ⟨rfl, 1, fun K hK => ?_⟩⟩
    have h1 := cutAll_len s 47
    have h2 := cutAll_size s 47 0
    refine to (R := (s.size < (2 ^ 40)) ∧ (bcase (decide ((↑(cutAll s (47 : Int)).length : Int) > (1 : Int))) (need (decide ((0 : Int) < (↑(cutAll s (47 : Int)).length : Int))) (need ((decide (0 < (cutAll s (47 : Int)).length)) && true) (((ByteArray.size ((cutAll s (47 : Int)).getD 0 (ByteArray.mk #[]))) < (2 ^ 40)) ∧ (bcase (decide ((↑(cutAll ((cutAll s (47 : Int)).getD 0 (ByteArray.mk #[])) (46 : Int)).length : Int) > (1 : Int))) (need (decide ((0 : Int) < (↑(cutAll s (47 : Int)).length : Int))) (need ((decide (0 < (cutAll s (47 : Int)).length)) && true) (K (.string ((cutAll s (47 : Int)).getD 0 (ByteArray.mk #[]))) []))) (need (decide ((0 : Int) < (↑(cutAll s (47 : Int)).length : Int))) (need ((decide (0 < (cutAll s (47 : Int)).length)) && true) (((ByteArray.size ((cutAll s (47 : Int)).getD 0 (ByteArray.mk #[]))) < (2 ^ 40)) ∧ (bcase (decide ((↑(cutAll ((cutAll s (47 : Int)).getD 0 (ByteArray.mk #[])) (58 : Int)).length : Int) > (1 : Int))) (need (decide ((0 : Int) < (↑(cutAll s (47 : Int)).length : Int))) (need ((decide (0 < (cutAll s (47 : Int)).length)) && true) (K (.string ((cutAll s (47 : Int)).getD 0 (ByteArray.mk #[]))) []))) (need (decide ((0 : Int) < (↑(cutAll s (47 : Int)).length : Int))) (need ((decide (0 < (cutAll s (47 : Int)).length)) && true) (bcase ((ByteArray.toList ((cutAll s (47 : Int)).getD 0 (ByteArray.mk #[]))) == (ByteArray.mk #[(108 : UInt8), (111 : UInt8), (99 : UInt8), (97 : UInt8), (108 : UInt8), (104 : UInt8), (111 : UInt8), (115 : UInt8), (116 : UInt8)]).toList) (need (decide ((0 : Int) < (↑(cutAll s (47 : Int)).length : Int))) (need ((decide (0 < (cutAll s (47 : Int)).length)) && true) (K (.string ((cutAll s (47 : Int)).getD 0 (ByteArray.mk #[]))) []))) (K (.string (ByteArray.mk #[])) [])))))))))))) (K (.string (ByteArray.mk #[])) []))) (by kernel_rfl) ?_
    ((repeat' first | exact trivial | with_reducible refine need_of (by first | assumption | omega | (simp only [Bool.and_true, Bool.and_eq_true, decide_eq_true_eq]; omega)) ?_ | with_reducible refine ⟨by first | assumption | omega | (simp only [Bool.and_true, Bool.and_eq_true, decide_eq_true_eq]; omega), ?_⟩ | with_reducible refine bcase_of (fun h => ?_) (fun h => ?_)) <;> simpa only [isS, frontS, *, cond_true, cond_false, Bool.and_true, Bool.and_false, Bool.true_and, Bool.false_and, Bool.or_true, Bool.or_false, Bool.true_or, Bool.false_or] using hK _)
  · cases h
end Go.Proofs.YtofcjkbgieenlaaDoor.PM
