/-
  Plain facts on a text's parts: how splitB goes with a byte more, with the last place of the byte, and with what joins. By an AI agent.
-/
import Derived.Test.YtoklancgpmnhcaaDoorCleanL
import Derived.Laws.Strings
import Derived.WideShapes
namespace Go.Proofs.YtoklancgpmnhcaaDoor.Hand
open Go

theorem splitB_snoc_eq (c : UInt8) : ∀ l, splitB c (l ++ [c]) = splitB c l ++ [[]]
  | [] => by simp [splitB]
  | b :: r => by
    have ih := splitB_snoc_eq c r
    rw [List.cons_append, splitB, splitB]
    split
    · rw [ih]; rfl
    · rw [ih]
      cases h : splitB c r with
      | nil => exact absurd h (splitB_ne c r)
      | cons x t => rfl
theorem splitB_snoc_ne {c b : UInt8} (hb : b ≠ c) : ∀ l, ∃ xs y, splitB c l = xs ++ [y] ∧ splitB c (l ++ [b]) = xs ++ [y ++ [b]]
  | [] => ⟨[], [], by simp [splitB], by simp [splitB, hb]⟩
  | a :: r => by
    obtain ⟨xs, y, h1, h2⟩ := splitB_snoc_ne hb r
    by_cases ha : a = c
    · exact ⟨[] :: xs, y, by rw [splitB, if_pos ha, h1]; rfl, by rw [List.cons_append, splitB, if_pos ha, h2]; rfl⟩
    · cases xs with
      | nil => exact ⟨[], a :: y, by rw [splitB, if_neg ha, h1]; rfl, by rw [List.cons_append, splitB, if_neg ha, h2]; rfl⟩
      | cons x t => exact ⟨(a :: x) :: t, y, by rw [splitB, if_neg ha, h1]; rfl, by rw [List.cons_append, splitB, if_neg ha, h2]; rfl⟩
theorem splitB_append (c : UInt8) : ∀ a b, splitB c (a ++ c :: b) = splitB c a ++ splitB c b
  | [], b => by simp [splitB]
  | x :: a, b => by
    have ih := splitB_append c a b
    rw [List.cons_append, splitB, splitB]
    split
    · rw [ih]; rfl
    · rw [ih]
      cases h : splitB c a with
      | nil => exact absurd h (splitB_ne c a)
      | cons x t => rfl
theorem splitB_not_mem {c : UInt8} {l : List UInt8} (h : c ∉ l) : splitB c l = [l] := splitB_none fun _ hk => h (List.mem_of_getElem? hk)
theorem join_cons2 (x y : List UInt8) (r : List (List UInt8)) (sep : List UInt8) : Lib.join (x :: y :: r) sep = x ++ sep ++ Lib.join (y :: r) sep := by
  simp [Lib.join, List.intercalate]
theorem join_splitB (c : UInt8) : ∀ l, Lib.join (splitB c l) [c] = l
  | [] => by simp [splitB, Lib.join_one]
  | b :: r => by
    have ih := join_splitB c r
    rw [splitB]
    split
    · rename_i h
      cases hs : splitB c r with
      | nil => exact absurd hs (splitB_ne c r)
      | cons x t => rw [join_cons2, ← hs, ih, h]; rfl
    · cases hs : splitB c r with
      | nil => exact absurd hs (splitB_ne c r)
      | cons x t =>
        rw [hs] at ih
        cases t with
        | nil => simp only [Lib.join_one] at ih ⊢; rw [ih]
        | cons y t => rw [join_cons2] at ih ⊢; rw [← ih]; simp
theorem mem_splitB {c : UInt8} : ∀ {l x}, x ∈ splitB c l → c ∉ x
  | [], x, h => by simp [splitB] at h; simp [h]
  | b :: r, x, h => by
    rw [splitB] at h
    split at h
    · rcases List.mem_cons.1 h with rfl | h
      · simp
      · exact mem_splitB h
    · rename_i hb
      cases hs : splitB c r with
      | nil => exact absurd hs (splitB_ne c r)
      | cons y t =>
        rw [hs] at h
        rcases List.mem_cons.1 h with rfl | h
        · have := mem_splitB (l := r) (x := y) (by rw [hs]; simp)
          simp [this, Ne.symm hb]
        · exact mem_splitB (by rw [hs]; simp [h])
/-- The parts of texts without the byte, joined, are these. -/
theorem splitB_join {c : UInt8} : ∀ {xs : List (List UInt8)}, xs ≠ [] → (∀ x ∈ xs, c ∉ x) → splitB c (Lib.join xs [c]) = xs
  | [], h, _ => absurd rfl h
  | [x], _, h => by rw [Lib.join_one]; exact splitB_not_mem (h x (by simp))
  | x :: y :: r, _, h => by
    rw [join_cons2, List.append_assoc, List.singleton_append, splitB_append, splitB_not_mem (h x (by simp)), splitB_join (xs := y :: r) (by simp) (fun z hz => h z (by simp [hz]))]
    rfl
theorem join_snoc {sep : List UInt8} : ∀ {xs : List (List UInt8)} {y : List UInt8}, xs ≠ [] → Lib.join (xs ++ [y]) sep = Lib.join xs sep ++ sep ++ y
  | [], _, h => absurd rfl h
  | [x], y, _ => by rw [List.singleton_append, join_cons2, Lib.join_one, Lib.join_one]
  | x :: z :: r, y, _ => by
    rw [List.cons_append, List.cons_append, join_cons2, join_cons2, ← List.cons_append, join_snoc (xs := z :: r) (by simp)]
    simp [List.append_assoc]
/-- Where the byte stands last: what is ahead of it, and behind. -/
theorem last_cases (c : UInt8) (l : List UInt8) : c ∉ l ∨ ∃ a b, l = a ++ c :: b ∧ c ∉ b := by
  induction l with
  | nil => simp
  | cons x r ih =>
    rcases ih with ih | ⟨a, b, rfl, hb⟩
    · by_cases hx : x = c
      · exact .inr ⟨[], r, by simp [hx], ih⟩
      · exact .inl (by simp [ih, Ne.symm hx])
    · exact .inr ⟨x :: a, b, by simp, hb⟩
theorem data_append (a b : ByteArray) : (a ++ b).data.toList = a.data.toList ++ b.data.toList := by simp
theorem bytes_eq {a b : ByteArray} : a.toList = b.toList ↔ a = b := by
  rw [ByteArray.toList_eq, ByteArray.toList_eq]
  exact ⟨fun h => Go.WideShapes.bytes_inj h, fun h => by rw [h]⟩
theorem size_data (a : ByteArray) : a.size = a.data.toList.length := (Array.length_toList ..).symm
end Go.Proofs.YtoklancgpmnhcaaDoor.Hand
