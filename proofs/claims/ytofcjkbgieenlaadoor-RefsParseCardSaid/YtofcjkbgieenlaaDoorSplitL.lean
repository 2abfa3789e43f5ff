/-
  The parts of a text between one byte, as a plain list; how it goes with the first place of that byte. By an AI agent.
-/
import Derived.Lib.IndexLaws
import Derived.Lib.Strings
import Derived.Lib.IndexBytes
namespace Go.Proofs.YtofcjkbgieenlaaDoor.Hand
open Go

def splitB (c : UInt8) : List UInt8 → List (List UInt8)
  | [] => [[]]
  | b :: r => if b = c then [] :: splitB c r else
    match splitB c r with
    | h :: t => (b :: h) :: t
    | [] => [[b]]

theorem splitB_ne (c : UInt8) : ∀ l, splitB c l ≠ []
  | [] => by simp [splitB]
  | b :: r => by
    unfold splitB
    split
    · simp
    · split <;> simp

theorem splitB_none {c : UInt8} : ∀ {l : List UInt8}, (∀ k : Nat, l[k]? ≠ some c) → splitB c l = [l]
  | [], _ => rfl
  | b :: r, h => by
    have hb : b ≠ c := fun e => h 0 (by simp [e])
    have hr := splitB_none (l := r) (c := c) (fun k => by simpa using h (k + 1))
    unfold splitB
    rw [if_neg hb, hr]

theorem splitB_some {c : UInt8} : ∀ {l : List UInt8} {i : Nat}, l[i]? = some c → (∀ k : Nat, k < i → l[k]? ≠ some c) → splitB c l = l.take i :: splitB c (l.drop (i + 1))
  | [], i, h, _ => by simp at h
  | b :: r, 0, h, _ => by
    have hb : b = c := by simpa using h
    rw [splitB, if_pos hb]
    simp
  | b :: r, i + 1, h, hk => by
    have hb : b ≠ c := fun e => hk 0 (by omega) (by simp [e])
    have hr := splitB_some (l := r) (c := c) (i := i) (by simpa using h) (fun k hki => by simpa using hk (k + 1) (by omega))
    rw [splitB, if_neg hb, hr]
    simp

def bs (l : List UInt8) : ByteArray := ⟨l.toArray⟩
theorem bs_data (l : List UInt8) : (bs l).data.toList = l := by simp [bs]
theorem bs_of (s : ByteArray) : bs s.data.toList = s := by cases s; simp [bs]
theorem bs_size (l : List UInt8) : (bs l).size = l.length := by simp [bs, ByteArray.size]
def splitS (c : UInt8) (s : ByteArray) : List ByteArray := (splitB c s.data.toList).map bs
theorem splitS_none {c : UInt8} {s : ByteArray} (h : Lib.indexByte s.data.toList c = -1) : splitS c s = [s] := by
  unfold splitS
  rw [splitB_none (Lib.indexByte_none h)]
  simp [bs_of]
theorem splitS_some {c : UInt8} {s : ByteArray} {i : Nat} (h : Lib.indexByte s.data.toList c = i) : splitS c s = s.extract 0 i :: splitS c (s.extract (i + 1) s.size) := by
  obtain ⟨h1, h2⟩ := Lib.indexByte_some h
  unfold splitS
  rw [splitB_some h1 h2, Lib.extract_to_end]
  simp only [List.map_cons, List.cons.injEq, and_true]
  rw [← bs_of (s.extract 0 i), Lib.extract_data]
  simp
theorem indexByte_lt {l : List UInt8} {c : UInt8} {i : Nat} (h : Lib.indexByte l c = i) : i < l.length := by
  obtain ⟨h1, _⟩ := Lib.indexByte_some h
  exact (List.getElem?_eq_some_iff.1 h1).1
theorem splitB_length (c : UInt8) : ∀ l, (splitB c l).length ≤ l.length + 1
  | [] => by simp [splitB]
  | b :: r => by
    have := splitB_length c r
    unfold splitB
    split
    · simp; omega
    · split
      · rename_i h t e
        rw [e] at this
        simp at this ⊢
        omega
      · simp
theorem splitB_mem_length (c : UInt8) : ∀ l x, x ∈ splitB c l → x.length ≤ l.length
  | [], x, h => by simp [splitB] at h; simp [h]
  | b :: r, x, h => by
    have ih := splitB_mem_length c r
    unfold splitB at h
    split at h
    · rcases List.mem_cons.1 h with rfl | h
      · simp
      · have := ih x h; simp; omega
    · split at h
      · rename_i hh t e
        rcases List.mem_cons.1 h with rfl | h
        · have := ih hh (by rw [e]; simp); simp; omega
        · have := ih x (by rw [e]; simp [h]); simp; omega
      · simp at h; simp [h]
end Go.Proofs.YtofcjkbgieenlaaDoor.Hand
