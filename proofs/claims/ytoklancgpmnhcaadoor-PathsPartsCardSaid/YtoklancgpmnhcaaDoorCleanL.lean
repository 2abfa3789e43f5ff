/-
  What paths.Clean does to a text's parts, as plain Lean. By an AI agent.
-/
import Derived.Test.YtoklancgpmnhcaaDoorSplitL
import Derived.Lib.Join
namespace Go.Proofs.YtoklancgpmnhcaaDoor.Hand
open Go

theorem List.reverseRecOn' {α : Type} {motive : List α → Prop} (l : List α) (nil : motive []) (append_singleton : ∀ xs x, motive xs → motive (xs ++ [x])) : motive l := by
  rw [← List.reverse_reverse l]
  induction l.reverse with
  | nil => exact nil
  | cons x r ih => rw [List.reverse_cons]; exact append_singleton _ _ ih
theorem lens_le {M : Nat} : ∀ {r : List (List UInt8)}, (∀ x ∈ r, x.length ≤ M) → Lib.lens r ≤ r.length * M
  | [], _ => by simp [Lib.lens]
  | x :: r, h => by
    have h1 := h x (by simp)
    have h2 := lens_le (r := r) (fun y hy => h y (by simp [hy]))
    simp only [Lib.lens, List.map_cons, List.sum_cons, List.length_cons, Nat.add_mul, Nat.one_mul] at *
    omega
theorem join_le {M : Nat} (sep : List UInt8) (r : List (List UInt8)) (h : ∀ x ∈ r, x.length ≤ M) : (Lib.join r sep).length ≤ r.length * (M + sep.length) := by
  cases r with
  | nil => simp [Lib.join_nil]
  | cons x r =>
    rw [Lib.join_length]
    have := lens_le h
    have h3 : sep.length * r.length ≤ (x :: r).length * sep.length := by rw [Nat.mul_comm]; exact Nat.mul_le_mul_right _ (by simp)
    rw [Nat.mul_add]
    omega
/-- One part more. -/
def cleanStep (l : List ByteArray) (x : ByteArray) : Option (List ByteArray) :=
  if x.toList = [] then some l
  else if x.toList = [46] then some l
  else if x.toList = [46, 46] then (if l = [] then none else some (l.take (l.length - 1)))
  else if Lib.indexByte x.data.toList 0 ≥ 0 then none
  else some (l ++ [x])
def cleanAll : List ByteArray → Option (List ByteArray) := fun xs => xs.foldlM cleanStep []
theorem cleanAll_nil : cleanAll [] = some [] := rfl
theorem cleanAll_snoc (xs : List ByteArray) (x : ByteArray) : cleanAll (xs ++ [x]) = (cleanAll xs).bind fun l => cleanStep l x := by
  unfold cleanAll
  rw [List.foldlM_append]
  cases xs.foldlM cleanStep [] <;> simp [List.foldlM]
theorem cleanStep_length {l m : List ByteArray} {x : ByteArray} (h : cleanStep l x = some m) : m.length ≤ l.length + 1 := by
  unfold cleanStep at h
  split at h
  · cases h; omega
  · split at h
    · cases h; omega
    · split at h
      · split at h
        · cases h
        · cases h; simp; omega
      · split at h
        · cases h
        · cases h; simp
theorem cleanAll_prefix_none {xs pre : List ByteArray} (h : pre <+: xs) (hn : cleanAll pre = none) : cleanAll xs = none := by
  obtain ⟨r, rfl⟩ := h
  unfold cleanAll at *
  rw [List.foldlM_append, hn]
  rfl
theorem cleanStep_mem {l m : List ByteArray} {x : ByteArray} (h : cleanStep l x = some m) : ∀ y ∈ m, y ∈ l ∨ y = x := by
  unfold cleanStep at h
  intro y hy
  split at h
  · cases h; exact .inl hy
  · split at h
    · cases h; exact .inl hy
    · split at h
      · split at h
        · cases h
        · cases h; exact .inl (List.mem_of_mem_take hy)
      · split at h
        · cases h
        · cases h; simpa using hy
theorem cleanAll_spec : ∀ (xs : List ByteArray) (l : List ByteArray), cleanAll xs = some l → l.length ≤ xs.length ∧ ∀ y ∈ l, y ∈ xs := by
  intro xs
  induction xs using List.reverseRecOn' with
  | nil => intro l h; cases h; simp
  | append_singleton xs x ih =>
    intro l h
    rw [cleanAll_snoc] at h
    obtain ⟨m, hm, hs⟩ := Option.bind_eq_some_iff.1 h
    obtain ⟨h1, h2⟩ := ih m hm
    have h3 := cleanStep_length hs
    refine ⟨by simp; omega, fun y hy => ?_⟩
    rcases cleanStep_mem hs y hy with h | h
    · exact List.mem_append.2 (.inl (h2 y h))
    · simp [h]
/-- The texts with / between them. -/
def slashed (l : List ByteArray) : ByteArray := ⟨(Lib.join (l.map (·.data.toList)) [47]).toArray⟩
def cleanOf (p : ByteArray) : ByteArray × Int :=
  match cleanAll (splitS 47 p) with
  | none => (⟨#[]⟩, 71)
  | some l => if (slashed l).size > 200 then (⟨#[]⟩, 3) else (slashed l, 0)
/-- Of a text that is not beyond what is ever handed in. -/
def paths_Clean.f (a0 : ByteArray) : Option (ByteArray × Int) := if a0.size ≤ 1000000 then some (cleanOf a0) else none
end Go.Proofs.YtoklancgpmnhcaaDoor.Hand
