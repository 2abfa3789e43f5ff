/- A range over a function value whose closure keeps state of its own in boxes B .. B+m-1 (strings.SplitSeq): the law for the caller, and what the closure owes. The parts of a text between one byte, as a plain list; how it goes with the first place of that byte. DERIVED: THE SHELF's CONTRACTS AT THIS DUMP, IN PLAIN WORDS (tools/lay-plain.mjs out of 'TrydShelf.lean', which tools/lay-shelf.mjs wrote): THE SAME DECLARATIONS UNDER THE SAME NAMES: 'import', 'namespace', 'open', 'def', 'theorem' AND NOTHING ELSE: no command of the shelf's: FOR A HAND-IN. Each laying: the table of numbers ('.._ren') and one theorem, a field a fact of the dump's own or the kernel's comparison; each contract: ONE APPLICATION. strings.SplitSeq at a separator of one byte: the value that it hands back, and what that closure owes to a range over it. Contracts of the builder's copyCheck and WriteByte, at this program (the shelf's were not laid: this program's copyCheck names other types). A small machine beside the model: values and memory of one call, told by numbers of its own; its definitions. Which temporaries live behind each region, and in which order drawn regions are walked: hints, no more. What the small machine's values and memory say of the model's: the relation, and how it goes on. Operations that leave memory as it is: what the small machine says of them holds of the model. By an AI agent. -/
import Derived.RangeFuncNested
import Derived.RangeFuncBound
import Derived.RangeFuncCalls
import Derived.RangeFuncLeaves
import Derived.Shelf.Abstract
import Derived.Shelf.RegionOpen
import Derived.WalkKit
import Derived.OwnWalkIn
import Derived.TacticsInMore
import Derived.LoopNIn
import Derived.LoopIn
import Derived.Lib.IndexLaws
import Derived.Lib.Strings
import Derived.Lib.IndexBytes
import Derived.Shelf.Strings.Builder1
import Derived.Shelf.Strings.Trim
import Derived.Shelf.Small.Utf8
import Derived.Shelf.Small.Strs
import Derived.Shelf.Small.Wraps
import Derived.Shelf.Strings.BuilderF
import Derived.Shelf.Strings.BuilderK
import Derived.Shelf.Strings.Search1
import Derived.Shelf.Strings.Search2
import Derived.Shelf.Strings.Search3
import Derived.Shelf.Strings.Cut
import Derived.Shelf.LaysM
import Derived.Shelf.Strings.Shaped
import Derived.Shelf.Strings.LastIndex
import Derived.Shelf.Strings.Prefix
import Derived.Shelf.Strings.Runes
import Derived.Shelf.Strings.IndexAny
import Derived.Shelf.Strings.AsciiSet
import Derived.Shelf.Strings.IndexAnyAll
import Derived.Shelf.Unicode.DecodeSlow
import Derived.Test.YtofcjkbgieenlaaDoorProg
import Derived.Lib.Hide
import Derived.StillTail
import Derived.KernelRfl
import Derived.Laws.IdiomCopy
import Derived.Below
import Derived.ChangeKeysEq
import Derived.Laws.BytesArg
import Derived.Laws.BytesString
set_option linter.unusedVariables false
set_option linter.unusedSimpArgs false
namespace Go.Proofs.YtofcjkbgieenlaaDoor.Hand
open Go.RowKit

/-- A step that turns the boxes B .. B+m-1 alone (and may draw). -/
structure BoxStep (B m : Nat) (W W' : World) : Prop where
  os : W'.os = W.os
  tape : W'.tape = W.tape
  output : W'.output = W.output
  size : W'.heap.size = W.heap.size
  others : ∀ k, ¬(B ≤ k ∧ k < B + m) → W'.heap[k]? = W.heap[k]?
/-- The boxes lie as they lay. -/
def BoxKept (B m : Nat) (W W' : World) : Prop := ∀ k, B ≤ k → k < B + m → W'.heap[k]? = W.heap[k]?
theorem BoxKept.refl (B m : Nat) (W : World) : BoxKept B m W W := fun _ _ _ => rfl
theorem BoxKept.trans {B m : Nat} {X Y Z : World} (h : BoxKept B m X Y) (k : BoxKept B m Y Z) : BoxKept B m X Z := fun i h1 h2 => (k i h1 h2).trans (h i h1 h2)
theorem BoxKept.putObj {B m : Nat} (W : World) (l : Nat) (o : Obj) (h : B + m ≤ l) : BoxKept B m W (W.putObj l o) := fun _ _ h2 => World.putObj_heap_other (by omega)

/-- What the closure owes: given rounds that keep its boxes, it hands over all of xs in order, or stops at a prefix. -/
def BoxSeq {α : Type} (F : Fence) (n : Nat) (P : Program) (g : Nat) (lb : Array Value) (encs : α → Array Value) (B m : Nat) (xs : List α) (w : World) : Prop :=
  ∀ (l : Nat) (J Jx : List α → World → Prop) (W : World), BoxKept B m w W → B + m ≤ W.heap.size →
    (∀ s A A', J s A → BoxStep B m A A' → J s A') → (∀ s A A', Jx s A → BoxStep B m A A' → Jx s A') →
    (∀ pre x W1, J pre W1 → pre ++ [x] <+: xs → YieldAt F (n - 1) P l (encs x) W1 fun e W' =>
      (e = .returned (.bool true) ∧ J (pre ++ [x]) W' ∧ BoxKept B m W1 W') ∨ (e = .returned (.bool false) ∧ Jx (pre ++ [x]) W')) →
    J [] W →
    CallsIn F n P g (#[.func (.yield l) #[] #[]] ++ lb) W fun e W' => (∃ v, e = .returned v) ∧ (J xs W' ∨ (∃ pre, pre <+: xs ∧ Jx pre W'))

/-- How a round's body may be left. -/
def boxPost {α : Type} (S B m : Nat) (I : List α → World → Prop) (Ix : Code → List α → World → Prop) (xs : List α) (W : World) : Exit → Act → World → Prop
  | .normal, _, W' => KeepsFrom S W W' ∧ BoxKept B m W W' ∧ I xs W'
  | .ret, _, W' => KeepsFrom S W W' ∧ Ix .ret xs W'
  | .exit id, _, W' => KeepsFrom S W W' ∧ Ix (.exit id) xs W'
  | .goto t, _, W' => KeepsFrom S W W' ∧ Ix (.goto t) xs W'
  | .panic _, _, _ => False
  | .outgrown, _, _ => False

variable {F : Fence} {n : Nat} {P : Program}
theorem wpIn_rangeFunc_box {α : Type} {g : Operand} {ps : Array Tmp} {assign body : Code} {Q : Exit → Act → World → Prop} {a : Act} {w : World}
    (hro : F.round = none) (h1 : 1 ≤ n) {gf : Nat} {lb : Array Value} (hg : a.eval g = .func (.func gf) #[] lb) (hFg : F.fn gf) (eg : ∀ args w, (callFunc gf args).run P w = .ok (.enter gf args) w)
    {encs : α → Array Value} {B m : Nat} {xs : List α} (hseq : BoxSeq F (n - 1) P gf lb encs B m xs w) (hBm : B + m ≤ w.heap.size) (hps : ∀ x, (encs x).size = ps.size)
    (I : List α → World → Prop) (Ix : Code → List α → World → Prop)
    (hI : OwnFrom w.heap.size I) (hIx : ∀ c, OwnFrom w.heap.size (Ix c)) (hS : ∀ s A A', I s A → BoxStep B m A A' → I s A') (hSx : ∀ c s A A', Ix c s A → BoxStep B m A A' → Ix c s A')
    (h0 : I [] w) (a₁ : α → Act)
    (hassign : ∀ (l : Nat) (x : α) (W : World) (K : Act → World → Prop), K (a₁ x) W →
      assign.wpIn (F.inRound l) (n - 1 - 1) P (Exit.then K (fun _ _ _ => False)) { tmps := (ps.zip (encs x)).foldl (fun t (p, v) => t.setIfInBounds p v) a.tmps, defers := [] } W)
    (hbody : ∀ (l : Nat) (pre : List α) (x : α) (W : World), I pre W → pre ++ [x] <+: xs → body.wpIn (F.inRound l) (n - 1 - 1) P (boxPost w.heap.size B m I Ix (pre ++ [x]) W) (a₁ x) W)
    (hdone : ∀ (D : Nat) (W : World), w.heap.size ≤ D → I xs W → W.heap[D]? = some (.deferred (some [])) → Q .normal { a with defers := { target := .collected D, args := #[] } :: a.defers } W)
    (hstop : ∀ (D : Nat) (c : Code) (pre : List α) (W : World), w.heap.size ≤ D → pre <+: xs → Ix c pre W → W.heap[D]? = some (.deferred (some [])) → c.wpIn F n P Q { a with defers := { target := .collected D, args := #[] } :: a.defers } W) :
    (Code.rangeFunc g ps assign body).wpIn F n P Q a w := by
  refine wpIn_rangeFunc fun fn hfn => ?_
  rw [hro]
  -- the loop's record, and the two blocks that the statement lays: D for deferred calls, D + 1 for the record
  generalize hD : w.heap.size = D at *
  let rc : LoopState → Option Code → Loop := fun st pe => { state := st, pending := pe, fn, tmps := a.tmps, params := ps, assign, body, defers := D }
  obtain ⟨W1, hW1⟩ : ∃ W1, W1 = (w.alloc (.deferred (some []))).alloc (.loop (rc .ready none)) := ⟨_, rfl⟩
  have hL1 : W1.heap[D + 1]? = some (.loop (rc .ready none)) := by
    have := World.alloc_heap_new (w.alloc (.deferred (some []))) (.loop (rc .ready none))
    rw [World.size_alloc, hD] at this
    rw [hW1]; exact this
  have hK1 : W1.heap[D]? = some (.deferred (some [])) := by
    have := World.alloc_heap_new w (.deferred (some []))
    rw [hD] at this
    rw [hW1]; exact (Below.heap_alloc _ _ _ (by simp [hD])).trans this
  have hI1 : I [] W1 := by rw [hW1]; exact hI.alloc _ (hI.alloc _ h0)
  have hsz : W1.heap.size = D + 2 := by rw [hW1]; simp [hD]
  have hkeep : BoxKept B m w W1 := fun k _ h2 => by
    rw [hW1]
    exact (Below.heap_alloc _ _ _ (by simp; omega)).trans (Below.heap_alloc _ _ _ (by omega))
  refine ⟨D + 1, [{ target := .collected D, args := #[] }], W1, { target := .fn (.func gf) lb, args := #[.func (.yield (D + 1)) #[] #[]] }, W1, gf,
    #[.func (.yield (D + 1)) #[] #[]] ++ lb, W1, ?_, ?_, ?_, ?_, fun _ => h1, ?_⟩
  · have := run_enterLoop_outer (P := P) (w := w) fn a.tmps ps assign body
    rw [hD] at this
    rw [hW1]; exact this
  · simp only [resolve, hg]
    simp [go_sem]
  · intro f' hf'
    simp [Target.leads] at hf'
    subst hf'
    exact hFg
  · simp [invoke, go_sem, eg]
  · refine (hseq (D + 1) (fun pre W => I pre W ∧ W.heap[D + 1]? = some (.loop (rc .ready none)) ∧ W.heap[D]? = some (.deferred (some [])))
      (fun pre W => ∃ c, Ix c pre W ∧ W.heap[D + 1]? = some (.loop (rc .done (some c))) ∧ W.heap[D]? = some (.deferred (some [])))
      W1 hkeep (by omega) ?st ?stx ?round ⟨hI1, hL1, hK1⟩).mono ?behind
    case st =>
      rintro s A A' ⟨hi, hl, hk⟩ hb
      exact ⟨hS s A A' hi hb, (hb.others _ (by omega)).trans hl, (hb.others _ (by omega)).trans hk⟩
    case stx =>
      rintro s A A' ⟨c, hi, hl, hk⟩ hb
      exact ⟨c, hSx c s A A' hi hb, (hb.others _ (by omega)).trans hl, (hb.others _ (by omega)).trans hk⟩
    case round =>
      rintro pre x W ⟨hi, hl, hk⟩ hpx
      have hlt : D + 1 < W.heap.size := (Array.getElem?_eq_some_iff.1 hl).1
      have hy := run_yield (P := P) (args := encs x) hl (hps x)
      refine ⟨fn, _, assign, body, hy, roundIn_of_wpIn hfn (hassign _ x W _ ⟨_, run_beginRound hl rfl, ?_⟩)⟩
      generalize hWb : W.putObj (D + 1) (.loop { rc .ready none with state := .busy }) = Wb
      have hl2 : Wb.heap[D + 1]? = some (.loop { rc .ready none with state := .busy }) := by rw [← hWb]; exact World.putObj_heap_same hlt
      have hk2 : Wb.heap[D]? = some (.deferred (some [])) := by rw [← hWb]; exact (World.putObj_heap_other (by omega)).trans hk
      have hkb : BoxKept B m W Wb := by rw [← hWb]; exact BoxKept.putObj _ _ _ (by omega)
      have hib : I pre Wb := by rw [← hWb]; exact hI.putObj _ hi (by omega) hl rfl
      refine wpIn_mono (hbody _ pre x _ hib hpx) ?_
      have fin : ∀ (jump : Option Code) (W3 : World), KeepsFrom D Wb W3 →
          (Instr.endRound (D + 1) jump).run P W3 = .ok (.bool jump.isNone) (W3.putObj (D + 1) (.loop (rc (if jump.isNone then .ready else .done) jump))) ∧
          W3.heap[D + 1]? = some (.loop { rc .ready none with state := .busy }) ∧
          (W3.putObj (D + 1) (.loop (rc (if jump.isNone then .ready else .done) jump))).heap[D + 1]? = some (.loop (rc (if jump.isNone then .ready else .done) jump)) ∧
          (W3.putObj (D + 1) (.loop (rc (if jump.isNone then .ready else .done) jump))).heap[D]? = some (.deferred (some [])) := fun jump W3 h3 => by
        have hl3 := h3.same _ _ (by omega) hl2 rfl
        exact ⟨run_endRound (P := P) jump hl3, hl3, World.putObj_heap_same (Array.getElem?_eq_some_iff.1 hl3).1, (World.putObj_heap_other (by omega)).trans (h3.same _ _ (Nat.le_refl _) hk2 rfl)⟩
      rintro e a3 W3 hp
      cases e with
      | normal =>
        obtain ⟨h3, hb3, hi3⟩ := hp
        obtain ⟨hr, hl3, hl4, hk4⟩ := fin none W3 h3
        exact ⟨_, _, hr, .inl ⟨rfl, ⟨hI.putObj _ hi3 (by omega) hl3 rfl, hl4, hk4⟩, (hkb.trans hb3).trans (BoxKept.putObj _ _ _ (by omega))⟩⟩
      | ret =>
        obtain ⟨h3, hi3⟩ := hp
        obtain ⟨hr, hl3, hl4, hk4⟩ := fin (some .ret) W3 h3
        exact ⟨_, _, hr, .inr ⟨rfl, .ret, (hIx _).putObj _ hi3 (by omega) hl3 rfl, hl4, hk4⟩⟩
      | exit id =>
        obtain ⟨h3, hi3⟩ := hp
        obtain ⟨hr, hl3, hl4, hk4⟩ := fin (some (.exit id)) W3 h3
        exact ⟨_, _, hr, .inr ⟨rfl, .exit id, (hIx _).putObj _ hi3 (by omega) hl3 rfl, hl4, hk4⟩⟩
      | goto t =>
        obtain ⟨h3, hi3⟩ := hp
        obtain ⟨hr, hl3, hl4, hk4⟩ := fin (some (.goto t)) W3 h3
        exact ⟨_, _, hr, .inr ⟨rfl, .goto t, (hIx _).putObj _ hi3 (by omega) hl3 rfl, hl4, hk4⟩⟩
      | panic ch => exact hp.elim
      | outgrown => exact hp.elim
    case behind =>
      rintro e W2 ⟨⟨v, rfl⟩, (⟨hi, hl, hk⟩ | ⟨pre, hpre, c, hi, hl, hk⟩)⟩
      · refine ⟨none, _, run_endLoop (P := P) hl (by simp [rc]), ?_⟩
        exact hdone D _ (Nat.le_refl _) (hI.putObj _ hi (by omega) hl rfl) ((World.putObj_heap_other (by omega)).trans hk)
      · refine ⟨some c, _, run_endLoop (P := P) hl (by simp [rc]), ?_⟩
        exact hstop D c pre _ (Nat.le_refl _) hpre ((hIx c).putObj _ hi (by omega) hl rfl) ((World.putObj_heap_other (by omega)).trans hk)
end Go.Proofs.YtofcjkbgieenlaaDoor.Hand

namespace Go.Proofs.YtofcjkbgieenlaaDoor.Hand
open Go

def splitB (c : UInt8) : List UInt8 → List (List UInt8)
  | [] => [[]]
  | b :: r => if b = c then [] :: splitB c r else
    match splitB c r with
    | h :: t => (b :: h) :: t
    | [] => [[b]]

theorem splitB_ne (c : UInt8) : ∀ l, splitB c l ≠ []
  | [] => by simp [splitB]
  | b :: r => by
    unfold splitB
    split
    · simp
    · split <;> simp

theorem splitB_none {c : UInt8} : ∀ {l : List UInt8}, (∀ k : Nat, l[k]? ≠ some c) → splitB c l = [l]
  | [], _ => rfl
  | b :: r, h => by
    have hb : b ≠ c := fun e => h 0 (by simp [e])
    have hr := splitB_none (l := r) (c := c) (fun k => by simpa using h (k + 1))
    unfold splitB
    rw [if_neg hb, hr]

theorem splitB_some {c : UInt8} : ∀ {l : List UInt8} {i : Nat}, l[i]? = some c → (∀ k : Nat, k < i → l[k]? ≠ some c) → splitB c l = l.take i :: splitB c (l.drop (i + 1))
  | [], i, h, _ => by simp at h
  | b :: r, 0, h, _ => by
    have hb : b = c := by simpa using h
    rw [splitB, if_pos hb]
    simp
  | b :: r, i + 1, h, hk => by
    have hb : b ≠ c := fun e => hk 0 (by omega) (by simp [e])
    have hr := splitB_some (l := r) (c := c) (i := i) (by simpa using h) (fun k hki => by simpa using hk (k + 1) (by omega))
    rw [splitB, if_neg hb, hr]
    simp

def bs (l : List UInt8) : ByteArray := ⟨l.toArray⟩
theorem bs_data (l : List UInt8) : (bs l).data.toList = l := by simp [bs]
theorem bs_of (s : ByteArray) : bs s.data.toList = s := by cases s; simp [bs]
theorem bs_size (l : List UInt8) : (bs l).size = l.length := by simp [bs, ByteArray.size]
def splitS (c : UInt8) (s : ByteArray) : List ByteArray := (splitB c s.data.toList).map bs
theorem splitS_none {c : UInt8} {s : ByteArray} (h : Lib.indexByte s.data.toList c = -1) : splitS c s = [s] := by
  unfold splitS
  rw [splitB_none (Lib.indexByte_none h)]
  simp [bs_of]
theorem splitS_some {c : UInt8} {s : ByteArray} {i : Nat} (h : Lib.indexByte s.data.toList c = i) : splitS c s = s.extract 0 i :: splitS c (s.extract (i + 1) s.size) := by
  obtain ⟨h1, h2⟩ := Lib.indexByte_some h
  unfold splitS
  rw [splitB_some h1 h2, Lib.extract_to_end]
  simp only [List.map_cons, List.cons.injEq, and_true]
  rw [← bs_of (s.extract 0 i), Lib.extract_data]
  simp
theorem indexByte_lt {l : List UInt8} {c : UInt8} {i : Nat} (h : Lib.indexByte l c = i) : i < l.length := by
  obtain ⟨h1, _⟩ := Lib.indexByte_some h
  exact (List.getElem?_eq_some_iff.1 h1).1
theorem splitB_length (c : UInt8) : ∀ l, (splitB c l).length ≤ l.length + 1
  | [] => by simp [splitB]
  | b :: r => by
    have := splitB_length c r
    unfold splitB
    split
    · simp; omega
    · split
      · rename_i h t e
        rw [e] at this
        simp at this ⊢
        omega
      · simp
theorem splitB_mem_length (c : UInt8) : ∀ l x, x ∈ splitB c l → x.length ≤ l.length
  | [], x, h => by simp [splitB] at h; simp [h]
  | b :: r, x, h => by
    have ih := splitB_mem_length c r
    unfold splitB at h
    split at h
    · rcases List.mem_cons.1 h with rfl | h
      · simp
      · have := ih x h; simp; omega
    · split at h
      · rename_i hh t e
        rcases List.mem_cons.1 h with rfl | h
        · have := ih hh (by rw [e]; simp); simp; omega
        · have := ih x (by rw [e]; simp [h]); simp; omega
      · simp at h; simp [h]
end Go.Proofs.YtofcjkbgieenlaaDoor.Hand

namespace Go.Proofs
open Go.Shelf
def Tryd.lays169_ren : Go.Shelf.Ren := ⟨fun | 169 => 69 | n => n, fun | 70 => 73 | 9 => 9 | 0 => 0 | 72 => 75 | 37 => 42 | 127 => 94 | 3 => 3 | 5 => 5 | n => n, fun | n => n⟩
theorem Tryd.lays169 : Go.Proofs.Lays.n169 Tryd.prog Tryd.lays169_ren := {
  mixed := by kernel_rfl
  f169 := Tryd.func69.trans (congrArg some (by kernel_rfl))
  t0 := Tryd.underlying0
  a0 := Tryd.isAgg0
  z0 := Tryd.sizeOf0
  v0 := Tryd.zeroValue0
  t3 := Tryd.underlying3
  a3 := Tryd.isAgg3
  z3 := Tryd.sizeOf3
  v3 := Tryd.zeroValue3
  t9 := Tryd.underlying9
  a9 := Tryd.isAgg9
  z9 := Tryd.sizeOf9
  v9 := Tryd.zeroValue9
  t37 := Tryd.underlying42
  a37 := Tryd.isAgg42
  z37 := Tryd.sizeOf42
  v37 := Tryd.zeroValue42
  t70 := Tryd.underlying73
  a70 := Tryd.isAgg73
  z70 := Tryd.sizeOf73
  v70 := Tryd.zeroValue73
  t72 := Tryd.underlying75
  a72 := Tryd.isAgg75
  z72 := Tryd.sizeOf75
  v72 := Tryd.zeroValue75
  t127 := Tryd.underlying94
  a127 := Tryd.isAgg94
  z127 := Tryd.sizeOf94
  v127 := Tryd.zeroValue94 }
theorem Tryd.Builder_Extra_169 : Builder.Extra Tryd.prog Tryd.lays169_ren := {
  sizeBuilder := by kernel_rfl
  liesBuilder := by kernel_rfl
  t5 := Tryd.underlying5
  a5 := Tryd.isAgg5
  z5 := Tryd.sizeOf5
  v5 := Tryd.zeroValue5
  infoByte := by kernel_rfl
  cellsByte := by kernel_rfl
  sizeByte := by kernel_rfl
  neB5 := by decide }
open Go.RowKit in
/-- (*strings.Builder).String: "String returns the accumulated string.": OF A BUILDER THAT HOLDS AT LEAST ONE BYTE. ✋ THE MODEL FREEZES THOSE BYTES IN THE BUFFER (unsafe.String): a later write INTO them ends the model's run without an answer; a later append BEHIND them goes on. The statement's order of evaluation is drawn: one draw. (LAID: no walk: one application.) -/
theorem Tryd.Builder_String (B b : Nat) (l : List UInt8) (w : World) (h : Lib.IsBuilder 75 5 B b (Lib.byteCells l) w) (h0 : l ≠ []) :
    Calls Tryd.prog 69 #[.pointer (some ⟨b, 0, none⟩)] w fun e w' => e = .returned (.string ⟨l.toArray⟩) ∧ Below B w w' := Any.Builder_String Tryd.lays169 Tryd.Builder_Extra_169 B b l w h h0
open Go.RowKit in
/-- (*strings.Builder).String OF A BUILDER THAT HOLDS NO BYTE: the empty string. (Its buffer is nil, or a row of which it has taken nothing yet; where that row has NO capacity the model lays one new block for unsafe.SliceData's 'some address'.) One draw. (LAID: no walk: one application.) -/
theorem Tryd.Builder_String_empty (B b : Nat) (w : World) (h : Lib.IsBuilder 75 5 B b [] w) (hBw : B ≤ w.heap.size) :
    Calls Tryd.prog 69 #[.pointer (some ⟨b, 0, none⟩)] w fun e w' => e = .returned (.string ⟨#[]⟩) ∧ Below B w w' := Any.Builder_String_empty Tryd.lays169 Tryd.Builder_Extra_169 B b w h hBw
open Go.RowKit in
/-- (*strings.Builder).String: "String returns the accumulated string.": WHATEVER THE BUILDER HOLDS. (LAID: no walk: one application.) -/
theorem Tryd.Builder_String_any (B b : Nat) (l : List UInt8) (w : World) (h : Lib.IsBuilder 75 5 B b (Lib.byteCells l) w) (hBw : B ≤ w.heap.size) :
    Calls Tryd.prog 69 #[.pointer (some ⟨b, 0, none⟩)] w fun e w' => e = .returned (.string ⟨l.toArray⟩) ∧ Below B w w' := Any.Builder_String_any Tryd.lays169 Tryd.Builder_Extra_169 B b l w h hBw
def Tryd.lays231_ren : Go.Shelf.Ren := ⟨fun | 231 => 73 | n => n, fun | 9 => 9 | 5 => 5 | 3 => 3 | 4 => 4 | n => n, fun | n => n⟩
theorem Tryd.lays231 : Go.Proofs.Lays.n231 Tryd.prog Tryd.lays231_ren := {
  mixed := by kernel_rfl
  f231 := Tryd.func73.trans (congrArg some (by kernel_rfl))
  t3 := Tryd.underlying3
  a3 := Tryd.isAgg3
  z3 := Tryd.sizeOf3
  v3 := Tryd.zeroValue3
  t4 := Tryd.underlying4
  a4 := Tryd.isAgg4
  z4 := Tryd.sizeOf4
  v4 := Tryd.zeroValue4
  t5 := Tryd.underlying5
  a5 := Tryd.isAgg5
  z5 := Tryd.sizeOf5
  v5 := Tryd.zeroValue5
  t9 := Tryd.underlying9
  a9 := Tryd.isAgg9
  z9 := Tryd.sizeOf9
  v9 := Tryd.zeroValue9 }
open Go.RowKit in
/-- strings.trimLeftByte (no doc; what TrimLeft and Trim call at a cutset of one ASCII byte): the leading bytes that are c are cut off. The world is as it was. (LAID: no walk: one application.) -/
theorem Tryd.strings_trimLeftByte (s : ByteArray) (c : UInt8) (w : World) :
    Calls Tryd.prog 73 #[.string s, .int .u8 c.toNat] w fun e w' => e = .returned (.string ⟨(Lib.trimLeftB s.data.toList c).toArray⟩) ∧ w' = w := Any.strings_trimLeftByte Tryd.lays231 s c w
def Tryd.lays232_ren : Go.Shelf.Ren := ⟨fun | 232 => 74 | n => n, fun | 9 => 9 | 5 => 5 | 3 => 3 | 4 => 4 | n => n, fun | n => n⟩
theorem Tryd.lays232 : Go.Proofs.Lays.n232 Tryd.prog Tryd.lays232_ren := {
  mixed := by kernel_rfl
  f232 := Tryd.func74.trans (congrArg some (by kernel_rfl))
  t3 := Tryd.underlying3
  a3 := Tryd.isAgg3
  z3 := Tryd.sizeOf3
  v3 := Tryd.zeroValue3
  t4 := Tryd.underlying4
  a4 := Tryd.isAgg4
  z4 := Tryd.sizeOf4
  v4 := Tryd.zeroValue4
  t5 := Tryd.underlying5
  a5 := Tryd.isAgg5
  z5 := Tryd.sizeOf5
  v5 := Tryd.zeroValue5
  t9 := Tryd.underlying9
  a9 := Tryd.isAgg9
  z9 := Tryd.sizeOf9
  v9 := Tryd.zeroValue9 }
open Go.RowKit in
/-- strings.trimRightByte (no doc; what TrimRight and Trim call at a cutset of one ASCII byte): the trailing bytes that are c are cut off. The world is as it was. ('hs': a string's length is a number that an int holds.) (LAID: no walk: one application.) -/
theorem Tryd.strings_trimRightByte (s : ByteArray) (c : UInt8) (w : World) (hs : s.size ≤ 9223372036854775807) :
    Calls Tryd.prog 74 #[.string s, .int .u8 c.toNat] w fun e w' => e = .returned (.string ⟨(Lib.trimRightB s.data.toList c).toArray⟩) ∧ w' = w := Any.strings_trimRightByte Tryd.lays232 s c w hs
def Tryd.lays161_ren : Go.Shelf.Ren := ⟨fun | 161 => 81 | 231 => 73 | 227 => 71 | 233 => 75 | 235 => 77 | 228 => 72 | 197 => 80 | 151 => 85 | 260 => 87 | 152 => 37 | 137 => 53 | 119 => 54 | 224 => 55 | 225 => 56 | 217 => 66 | 266 => 82 | n => n, fun | 9 => 9 | 4 => 4 | 3 => 3 | 5 => 5 | 117 => 83 | 116 => 82 | 0 => 0 | 124 => 87 | 105 => 88 | 21 => 21 | 119 => 98 | 46 => 59 | 139 => 101 | 138 => 100 | n => n, fun | 3 => 1 | 4 => 2 | n => n⟩
theorem Tryd.lays161 : Go.Proofs.Lays.n161 Tryd.prog Tryd.lays161_ren := {
  mixed := by kernel_rfl
  f119 := Tryd.func54.trans (congrArg some (by kernel_rfl))
  f137 := Tryd.func53.trans (congrArg some (by kernel_rfl))
  f151 := Tryd.func85.trans (congrArg some (by kernel_rfl))
  f152 := Tryd.func37.trans (congrArg some (by kernel_rfl))
  f161 := Tryd.func81.trans (congrArg some (by kernel_rfl))
  f197 := Tryd.func80.trans (congrArg some (by kernel_rfl))
  f217 := Tryd.func66.trans (congrArg some (by kernel_rfl))
  f224 := Tryd.func55.trans (congrArg some (by kernel_rfl))
  f225 := Tryd.func56.trans (congrArg some (by kernel_rfl))
  f227 := Tryd.func71.trans (congrArg some (by kernel_rfl))
  f228 := Tryd.func72.trans (congrArg some (by kernel_rfl))
  f231 := Tryd.func73.trans (congrArg some (by kernel_rfl))
  f233 := Tryd.func75.trans (congrArg some (by kernel_rfl))
  f235 := Tryd.func77.trans (congrArg some (by kernel_rfl))
  f260 := Tryd.func87.trans (congrArg some (by kernel_rfl))
  f266 := Tryd.func82.trans (congrArg some (by kernel_rfl))
  t0 := Tryd.underlying0
  a0 := Tryd.isAgg0
  z0 := Tryd.sizeOf0
  v0 := Tryd.zeroValue0
  t3 := Tryd.underlying3
  a3 := Tryd.isAgg3
  z3 := Tryd.sizeOf3
  v3 := Tryd.zeroValue3
  t4 := Tryd.underlying4
  a4 := Tryd.isAgg4
  z4 := Tryd.sizeOf4
  v4 := Tryd.zeroValue4
  t5 := Tryd.underlying5
  a5 := Tryd.isAgg5
  z5 := Tryd.sizeOf5
  v5 := Tryd.zeroValue5
  t9 := Tryd.underlying9
  a9 := Tryd.isAgg9
  z9 := Tryd.sizeOf9
  v9 := Tryd.zeroValue9
  t21 := Tryd.underlying21
  a21 := Tryd.isAgg21
  z21 := Tryd.sizeOf21
  v21 := Tryd.zeroValue21
  t46 := Tryd.underlying59
  a46 := Tryd.isAgg59
  z46 := Tryd.sizeOf59
  v46 := Tryd.zeroValue59
  t105 := Tryd.underlying88
  a105 := Tryd.isAgg88
  z105 := Tryd.sizeOf88
  v105 := Tryd.zeroValue88
  t116 := Tryd.underlying82
  a116 := Tryd.isAgg82
  z116 := Tryd.sizeOf82
  t117 := Tryd.underlying83
  a117 := Tryd.isAgg83
  z117 := Tryd.sizeOf83
  v117 := Tryd.zeroValue83
  t119 := Tryd.underlying98
  a119 := Tryd.isAgg98
  z119 := Tryd.sizeOf98
  t124 := Tryd.underlying87
  a124 := Tryd.isAgg87
  z124 := Tryd.sizeOf87
  v124 := Tryd.zeroValue87
  t138 := Tryd.underlying100
  a138 := Tryd.isAgg100
  z138 := Tryd.sizeOf100
  v138 := Tryd.zeroValue100
  t139 := Tryd.underlying101
  a139 := Tryd.isAgg101
  z139 := Tryd.sizeOf101
  v139 := Tryd.zeroValue101
  g3 := by kernel_rfl
  g4 := by kernel_rfl }
open Go.RowKit in
/-- strings.TrimLeft: "TrimLeft returns a slice of the string s with all leading Unicode code points contained in cutset removed.": AT A cutset OF ONE ASCII BYTE. The world is as it was. (LAID: no walk: one application.) -/
theorem Tryd.strings_TrimLeft_one (s : ByteArray) (c : UInt8) (hc : c.toNat < 128) (w : World) :
    Calls Tryd.prog 81 #[.string s, .string ⟨#[c]⟩] w fun e w' => e = .returned (.string ⟨(Lib.trimLeftB s.data.toList c).toArray⟩) ∧ w' = w := Any.strings_TrimLeft_one Tryd.lays161 s c hc w
def Tryd.lays160_ren : Go.Shelf.Ren := ⟨fun | 160 => 62 | 232 => 74 | 231 => 73 | 227 => 71 | 234 => 76 | 233 => 75 | 236 => 78 | 235 => 77 | 228 => 72 | 271 => 86 | 151 => 85 | 197 => 80 | 120 => 89 | 152 => 37 | 260 => 87 | 137 => 53 | 119 => 54 | 224 => 55 | 225 => 56 | 217 => 66 | 266 => 82 | n => n, fun | 9 => 9 | 4 => 4 | 3 => 3 | 5 => 5 | 117 => 83 | 116 => 82 | 0 => 0 | 124 => 87 | 21 => 21 | 105 => 88 | 46 => 59 | 119 => 98 | 139 => 101 | 138 => 100 | n => n, fun | 3 => 1 | 4 => 2 | n => n⟩
theorem Tryd.lays160 : Go.Proofs.Lays.n160 Tryd.prog Tryd.lays160_ren := {
  mixed := by kernel_rfl
  f119 := Tryd.func54.trans (congrArg some (by kernel_rfl))
  f120 := Tryd.func89.trans (congrArg some (by kernel_rfl))
  f137 := Tryd.func53.trans (congrArg some (by kernel_rfl))
  f151 := Tryd.func85.trans (congrArg some (by kernel_rfl))
  f152 := Tryd.func37.trans (congrArg some (by kernel_rfl))
  f160 := Tryd.func62.trans (congrArg some (by kernel_rfl))
  f197 := Tryd.func80.trans (congrArg some (by kernel_rfl))
  f217 := Tryd.func66.trans (congrArg some (by kernel_rfl))
  f224 := Tryd.func55.trans (congrArg some (by kernel_rfl))
  f225 := Tryd.func56.trans (congrArg some (by kernel_rfl))
  f227 := Tryd.func71.trans (congrArg some (by kernel_rfl))
  f228 := Tryd.func72.trans (congrArg some (by kernel_rfl))
  f231 := Tryd.func73.trans (congrArg some (by kernel_rfl))
  f232 := Tryd.func74.trans (congrArg some (by kernel_rfl))
  f233 := Tryd.func75.trans (congrArg some (by kernel_rfl))
  f234 := Tryd.func76.trans (congrArg some (by kernel_rfl))
  f235 := Tryd.func77.trans (congrArg some (by kernel_rfl))
  f236 := Tryd.func78.trans (congrArg some (by kernel_rfl))
  f260 := Tryd.func87.trans (congrArg some (by kernel_rfl))
  f266 := Tryd.func82.trans (congrArg some (by kernel_rfl))
  f271 := Tryd.func86.trans (congrArg some (by kernel_rfl))
  t0 := Tryd.underlying0
  a0 := Tryd.isAgg0
  z0 := Tryd.sizeOf0
  v0 := Tryd.zeroValue0
  t3 := Tryd.underlying3
  a3 := Tryd.isAgg3
  z3 := Tryd.sizeOf3
  v3 := Tryd.zeroValue3
  t4 := Tryd.underlying4
  a4 := Tryd.isAgg4
  z4 := Tryd.sizeOf4
  v4 := Tryd.zeroValue4
  t5 := Tryd.underlying5
  a5 := Tryd.isAgg5
  z5 := Tryd.sizeOf5
  v5 := Tryd.zeroValue5
  t9 := Tryd.underlying9
  a9 := Tryd.isAgg9
  z9 := Tryd.sizeOf9
  v9 := Tryd.zeroValue9
  t21 := Tryd.underlying21
  a21 := Tryd.isAgg21
  z21 := Tryd.sizeOf21
  v21 := Tryd.zeroValue21
  t46 := Tryd.underlying59
  a46 := Tryd.isAgg59
  z46 := Tryd.sizeOf59
  v46 := Tryd.zeroValue59
  t105 := Tryd.underlying88
  a105 := Tryd.isAgg88
  z105 := Tryd.sizeOf88
  v105 := Tryd.zeroValue88
  t116 := Tryd.underlying82
  a116 := Tryd.isAgg82
  z116 := Tryd.sizeOf82
  t117 := Tryd.underlying83
  a117 := Tryd.isAgg83
  z117 := Tryd.sizeOf83
  v117 := Tryd.zeroValue83
  t119 := Tryd.underlying98
  a119 := Tryd.isAgg98
  z119 := Tryd.sizeOf98
  t124 := Tryd.underlying87
  a124 := Tryd.isAgg87
  z124 := Tryd.sizeOf87
  v124 := Tryd.zeroValue87
  t138 := Tryd.underlying100
  a138 := Tryd.isAgg100
  z138 := Tryd.sizeOf100
  v138 := Tryd.zeroValue100
  t139 := Tryd.underlying101
  a139 := Tryd.isAgg101
  z139 := Tryd.sizeOf101
  v139 := Tryd.zeroValue101
  g3 := by kernel_rfl
  g4 := by kernel_rfl }
open Go.RowKit in
/-- strings.Trim: "Trim returns a slice of the string s with all leading and trailing Unicode code points contained in cutset removed.": AT A cutset OF ONE ASCII BYTE. THE WORLD BEHIND IT: as it was, or (where s is not empty) with ONE DRAW MORE off the tape: the statement 'return trimLeftByte(trimRightByte(s, c), c)' draws its order of evaluation. (LAID: no walk: one application.) -/
theorem Tryd.strings_Trim_one (s : ByteArray) (c : UInt8) (hc : c.toNat < 128) (w : World) (hs : s.size ≤ 9223372036854775807) :
    Calls Tryd.prog 62 #[.string s, .string ⟨#[c]⟩] w fun e w' => e = .returned (.string ⟨(Lib.trimB s.data.toList c).toArray⟩) ∧ (w' = w ∨ w' = w.drew) := Any.strings_Trim_one Tryd.lays160 s c hc w hs
def Tryd.lays119_ren : Go.Shelf.Ren := ⟨fun | 119 => 54 | n => n, fun | 21 => 21 | 4 => 4 | n => n, fun | n => n⟩
theorem Tryd.lays119 : Go.Proofs.Lays.n119 Tryd.prog Tryd.lays119_ren := {
  mixed := by kernel_rfl
  f119 := Tryd.func54.trans (congrArg some (by kernel_rfl))
  t4 := Tryd.underlying4
  a4 := Tryd.isAgg4
  z4 := Tryd.sizeOf4
  v4 := Tryd.zeroValue4
  t21 := Tryd.underlying21
  a21 := Tryd.isAgg21
  z21 := Tryd.sizeOf21
  v21 := Tryd.zeroValue21 }
/-- utf8.ValidRune: "ValidRune reports whether r can be legally encoded as UTF-8. Code points that are out of range or a surrogate half are illegal.": IT RETURNS 'Lib.validRune r'; the world is as it was. (LAID: no walk: one application.) -/
theorem Tryd.utf8_ValidRune (r : Int) (w : World) :
    Calls Tryd.prog 54 #[.int .i32 r] w fun e w' => e = .returned (.bool (Lib.validRune r)) ∧ w' = w := Any.utf8_ValidRune Tryd.lays119 r w
def Tryd.lays120_ren : Go.Shelf.Ren := ⟨fun | 120 => 89 | n => n, fun | 5 => 5 | 4 => 4 | n => n, fun | n => n⟩
theorem Tryd.lays120 : Go.Proofs.Lays.n120 Tryd.prog Tryd.lays120_ren := {
  mixed := by kernel_rfl
  f120 := Tryd.func89.trans (congrArg some (by kernel_rfl))
  t4 := Tryd.underlying4
  a4 := Tryd.isAgg4
  z4 := Tryd.sizeOf4
  v4 := Tryd.zeroValue4
  t5 := Tryd.underlying5
  a5 := Tryd.isAgg5
  z5 := Tryd.sizeOf5
  v5 := Tryd.zeroValue5 }
/-- utf8.RuneStart: "RuneStart reports whether the byte could be the first byte of an encoded, possibly invalid rune. Second and subsequent bytes always have the top two bits set to 10.": IT RETURNS 'Lib.runeStart b'; the world is as it was. ('h0', 'h1': b is a byte: a caller has it of every byte that it was handed.) (LAID: no walk: one application.) -/
theorem Tryd.utf8_RuneStart (b : Int) (w : World) (h0 : 0 ≤ b) (h1 : b < 256) :
    Calls Tryd.prog 89 #[.int .u8 b] w fun e w' => e = .returned (.bool (Lib.runeStart b)) ∧ w' = w := Any.utf8_RuneStart Tryd.lays120 b w h0 h1
def Tryd.lays137_ren : Go.Shelf.Ren := ⟨fun | 137 => 53 | 217 => 66 | 266 => 82 | n => n, fun | 9 => 9 | 5 => 5 | 3 => 3 | n => n, fun | n => n⟩
theorem Tryd.lays137 : Go.Proofs.Lays.n137 Tryd.prog Tryd.lays137_ren := {
  mixed := by kernel_rfl
  f137 := Tryd.func53.trans (congrArg some (by kernel_rfl))
  f217 := Tryd.func66.trans (congrArg some (by kernel_rfl))
  f266 := Tryd.func82.trans (congrArg some (by kernel_rfl))
  t3 := Tryd.underlying3
  a3 := Tryd.isAgg3
  z3 := Tryd.sizeOf3
  v3 := Tryd.zeroValue3
  t5 := Tryd.underlying5
  a5 := Tryd.isAgg5
  z5 := Tryd.sizeOf5
  v5 := Tryd.zeroValue5
  t9 := Tryd.underlying9
  a9 := Tryd.isAgg9
  z9 := Tryd.sizeOf9
  v9 := Tryd.zeroValue9 }
open Go.RowKit in
/-- strings.IndexByte: "IndexByte returns the index of the first instance of c in s, or -1 if c is not present in s.": IT RETURNS 'Lib.indexByte s c'; the world is as it was. (LAID: no walk: one application.) -/
theorem Tryd.strings_IndexByte (s : ByteArray) (c : Int) (w : World) :
    Calls Tryd.prog 53 #[.string s, .int .u8 c] w fun e w' => e = .returned (.int .i64 (Lib.indexByte s.data.toList c.toNat.toUInt8)) ∧ w' = w := Any.strings_IndexByte Tryd.lays137 s c w
def Tryd.lays210_ren : Go.Shelf.Ren := ⟨fun | 210 => 43 | 206 => 59 | n => n, fun | 9 => 9 | 4 => 4 | 3 => 3 | n => n, fun | n => n⟩
theorem Tryd.lays210 : Go.Proofs.Lays.n210 Tryd.prog Tryd.lays210_ren := {
  mixed := by kernel_rfl
  f206 := Tryd.func59.trans (congrArg some (by kernel_rfl))
  f210 := Tryd.func43.trans (congrArg some (by kernel_rfl))
  t3 := Tryd.underlying3
  a3 := Tryd.isAgg3
  z3 := Tryd.sizeOf3
  v3 := Tryd.zeroValue3
  t4 := Tryd.underlying4
  a4 := Tryd.isAgg4
  z4 := Tryd.sizeOf4
  v4 := Tryd.zeroValue4
  t9 := Tryd.underlying9
  a9 := Tryd.isAgg9
  z9 := Tryd.sizeOf9
  v9 := Tryd.zeroValue9 }
open Go.RowKit in
/-- internal/stringslite.CutPrefix (what strings.CutPrefix calls). (LAID: no walk: one application.) -/
theorem Tryd.stringslite_CutPrefix (s p : ByteArray) (w : World) :
    Calls Tryd.prog 43 #[.string s, .string p] w fun e w' => e = .returned (.tuple #[.string ⟨(Lib.trimPrefix s.data.toList p.data.toList).toArray⟩, .bool (Lib.hasPrefix s.data.toList p.data.toList)]) ∧ w' = w := Any.stringslite_CutPrefix Tryd.lays210 s p w
def Tryd.lays103_ren : Go.Shelf.Ren := ⟨fun | 103 => 28 | 210 => 43 | 206 => 59 | n => n, fun | 9 => 9 | 4 => 4 | 24 => 56 | 3 => 3 | n => n, fun | n => n⟩
theorem Tryd.lays103 : Go.Proofs.Lays.n103 Tryd.prog Tryd.lays103_ren := {
  mixed := by kernel_rfl
  f103 := Tryd.func28.trans (congrArg some (by kernel_rfl))
  f206 := Tryd.func59.trans (congrArg some (by kernel_rfl))
  f210 := Tryd.func43.trans (congrArg some (by kernel_rfl))
  t3 := Tryd.underlying3
  a3 := Tryd.isAgg3
  z3 := Tryd.sizeOf3
  v3 := Tryd.zeroValue3
  t4 := Tryd.underlying4
  a4 := Tryd.isAgg4
  z4 := Tryd.sizeOf4
  v4 := Tryd.zeroValue4
  t9 := Tryd.underlying9
  a9 := Tryd.isAgg9
  z9 := Tryd.sizeOf9
  v9 := Tryd.zeroValue9
  t24 := Tryd.underlying56
  a24 := Tryd.isAgg56
  z24 := Tryd.sizeOf56
  v24 := Tryd.zeroValue56 }
open Go.RowKit in
/-- strings.CutPrefix: "CutPrefix returns s without the provided leading prefix string and reports whether it found the prefix. If s doesn't start with prefix, CutPrefix returns s, false. If prefix is the empty string, CutPrefix returns s, true.": IT RETURNS '(Lib.trimPrefix s p, Lib.hasPrefix s p)'; the world is as it was. (LAID: no walk: one application.) -/
theorem Tryd.strings_CutPrefix (s p : ByteArray) (w : World) :
    Calls Tryd.prog 28 #[.string s, .string p] w fun e w' => e = .returned (.tuple #[.string ⟨(Lib.trimPrefix s.data.toList p.data.toList).toArray⟩, .bool (Lib.hasPrefix s.data.toList p.data.toList)]) ∧ w' = w := Any.strings_CutPrefix Tryd.lays103 s p w
open Go.RowKit in
/-- (*strings.Builder).String: "String returns the accumulated string.": OF A BUILDER THAT HOLDS AT LEAST ONE BYTE. ✋ THE MODEL FREEZES THOSE BYTES IN THE BUFFER (unsafe.String): a later write INTO them ends the model's run without an answer; a later append BEHIND them goes on. The statement's order of evaluation is drawn: one draw. THE FORM '_f': IT SAYS BESIDES THAT THE BUILDER IS A BUILDER STILL ('Lib.IsBuilderF', the same bytes): SO IT CAN BE WRITTEN ON: 'b.WriteString(b.String()[:k])'. (LAID: no walk: one application.) -/
theorem Tryd.Builder_String_f (B b : Nat) (l : List UInt8) (w : World) (h : Lib.IsBuilderF 75 5 B b (Lib.byteCells l) w) (h0 : l ≠ []) :
    Calls Tryd.prog 69 #[.pointer (some ⟨b, 0, none⟩)] w fun e w' => e = .returned (.string ⟨l.toArray⟩) ∧ (Lib.IsBuilderF 75 5 B b (Lib.byteCells l) w' ∧ Below B w w') := Any.Builder_String_f Tryd.lays169 Tryd.Builder_Extra_169 B b l w h h0
open Go.RowKit in
/-- (*strings.Builder).String OF A BUILDER THAT HOLDS NO BYTE: the empty string; THE FORM '_f': a builder still. (LAID: no walk: one application.) -/
theorem Tryd.Builder_String_empty_f (B b : Nat) (w : World) (h : Lib.IsBuilderF 75 5 B b [] w) (hBw : B ≤ w.heap.size) :
    Calls Tryd.prog 69 #[.pointer (some ⟨b, 0, none⟩)] w fun e w' => e = .returned (.string ⟨#[]⟩) ∧ (Lib.IsBuilderF 75 5 B b [] w' ∧ Below B w w') := Any.Builder_String_empty_f Tryd.lays169 Tryd.Builder_Extra_169 B b w h hBw
open Go.RowKit in
/-- (*strings.Builder).String: "String returns the accumulated string.": WHATEVER THE BUILDER HOLDS; THE FORM '_f': OF A BUILDER THAT MAY HAVE BEEN READ BEFORE; AND IT IS A BUILDER STILL, holding the same bytes: it can be written on. (LAID: no walk: one application.) -/
theorem Tryd.Builder_String_any_f (B b : Nat) (l : List UInt8) (w : World) (h : Lib.IsBuilderF 75 5 B b (Lib.byteCells l) w) (hBw : B ≤ w.heap.size) :
    Calls Tryd.prog 69 #[.pointer (some ⟨b, 0, none⟩)] w fun e w' => e = .returned (.string ⟨l.toArray⟩) ∧ (Lib.IsBuilderF 75 5 B b (Lib.byteCells l) w' ∧ Below B w w') := Any.Builder_String_any_f Tryd.lays169 Tryd.Builder_Extra_169 B b l w h hBw
open Go.RowKit in
/-- (*strings.Builder).String: "String returns the accumulated string.": OF A BUILDER THAT HOLDS AT LEAST ONE BYTE. ✋ THE MODEL FREEZES THOSE BYTES IN THE BUFFER (unsafe.String): a later write INTO them ends the model's run without an answer; a later append BEHIND them goes on. The statement's order of evaluation is drawn: one draw. THE FORM '_k': OVER 'Lib.IsBuilderF' (a builder that 'String()' may have read), AND WITH THE FRAME THAT REACHES ABOVE THE BUILDER: 'Lib.OthersKept': every block that is not b and is no row of uint8's stands as it stood: the iterator of a range among them. (LAID: no walk: one application.) -/
theorem Tryd.Builder_String_k (B b : Nat) (l : List UInt8) (w : World) (h : Lib.IsBuilderF 75 5 B b (Lib.byteCells l) w) (h0 : l ≠ []) :
    Calls Tryd.prog 69 #[.pointer (some ⟨b, 0, none⟩)] w fun e w' => e = .returned (.string ⟨l.toArray⟩) ∧ (Lib.IsBuilderF 75 5 B b (Lib.byteCells l) w' ∧ Below B w w' ∧ Lib.OthersKept 5 (some b) w w') := Any.Builder_String_k Tryd.lays169 Tryd.Builder_Extra_169 B b l w h h0
open Go.RowKit in
/-- (*strings.Builder).String OF A BUILDER THAT HOLDS NO BYTE: the empty string; THE FORM '_k': OVER 'Lib.IsBuilderF' (a builder that 'String()' may have read), AND WITH THE FRAME THAT REACHES ABOVE THE BUILDER: 'Lib.OthersKept': every block that is not b and is no row of uint8's stands as it stood: the iterator of a range among them. (LAID: no walk: one application.) -/
theorem Tryd.Builder_String_empty_k (B b : Nat) (w : World) (h : Lib.IsBuilderF 75 5 B b [] w) (hBw : B ≤ w.heap.size) :
    Calls Tryd.prog 69 #[.pointer (some ⟨b, 0, none⟩)] w fun e w' => e = .returned (.string ⟨#[]⟩) ∧ (Lib.IsBuilderF 75 5 B b [] w' ∧ Below B w w' ∧ Lib.OthersKept 5 (some b) w w') := Any.Builder_String_empty_k Tryd.lays169 Tryd.Builder_Extra_169 B b w h hBw
open Go.RowKit in
/-- (*strings.Builder).String: "String returns the accumulated string.": WHATEVER THE BUILDER HOLDS; THE FORM '_k': OVER 'Lib.IsBuilderF' (a builder that 'String()' may have read), AND WITH THE FRAME THAT REACHES ABOVE THE BUILDER: 'Lib.OthersKept': every block that is not b and is no row of uint8's stands as it stood: the iterator of a range among them. (LAID: no walk: one application.) -/
theorem Tryd.Builder_String_any_k (B b : Nat) (l : List UInt8) (w : World) (h : Lib.IsBuilderF 75 5 B b (Lib.byteCells l) w) (hBw : B ≤ w.heap.size) :
    Calls Tryd.prog 69 #[.pointer (some ⟨b, 0, none⟩)] w fun e w' => e = .returned (.string ⟨l.toArray⟩) ∧ (Lib.IsBuilderF 75 5 B b (Lib.byteCells l) w' ∧ Below B w w' ∧ Lib.OthersKept 5 (some b) w w') := Any.Builder_String_any_k Tryd.lays169 Tryd.Builder_Extra_169 B b l w h hBw
def Tryd.lays217_ren : Go.Shelf.Ren := ⟨fun | 217 => 66 | 266 => 82 | n => n, fun | 9 => 9 | 5 => 5 | 3 => 3 | n => n, fun | n => n⟩
theorem Tryd.lays217 : Go.Proofs.Lays.n217 Tryd.prog Tryd.lays217_ren := {
  mixed := by kernel_rfl
  f217 := Tryd.func66.trans (congrArg some (by kernel_rfl))
  f266 := Tryd.func82.trans (congrArg some (by kernel_rfl))
  t3 := Tryd.underlying3
  a3 := Tryd.isAgg3
  z3 := Tryd.sizeOf3
  v3 := Tryd.zeroValue3
  t5 := Tryd.underlying5
  a5 := Tryd.isAgg5
  z5 := Tryd.sizeOf5
  v5 := Tryd.zeroValue5
  t9 := Tryd.underlying9
  a9 := Tryd.isAgg9
  z9 := Tryd.sizeOf9
  v9 := Tryd.zeroValue9 }
open Go.RowKit Go.Lib in
/-- internal/stringslite.IndexByte (what strings.IndexByte calls): IT RETURNS 'Lib.indexByte s c'; the world is as it was. (LAID: no walk: one application.) -/
theorem Tryd.stringslite_IndexByte (s : ByteArray) (c : Int) (w : World) :
    Calls Tryd.prog 66 #[.string s, .int .u8 c] w fun e w' => e = .returned (.int .i64 (Lib.indexByte s.data.toList c.toNat.toUInt8)) ∧ w' = w := Any.stringslite_IndexByte Tryd.lays217 s c w
def Tryd.lays224_ren : Go.Shelf.Ren := ⟨fun | 224 => 55 | n => n, fun | 3 => 3 | n => n, fun | n => n⟩
theorem Tryd.lays224 : Go.Proofs.Lays.n224 Tryd.prog Tryd.lays224_ren := {
  mixed := by kernel_rfl
  f224 := Tryd.func55.trans (congrArg some (by kernel_rfl))
  t3 := Tryd.underlying3
  a3 := Tryd.isAgg3
  z3 := Tryd.sizeOf3
  v3 := Tryd.zeroValue3 }
open Go.RowKit Go.Lib in
/-- internal/bytealg.Cutover: "Cutover reports the number of failures of IndexByte we should tolerate before switching over to Index. n is the number of bytes processed so far.": on amd64: (n + 16) / 8. (LAID: no walk: one application.) -/
theorem Tryd.bytealg_Cutover (n : Int) (h0 : 0 ≤ n) (h1 : n < 4611686018427387904) (w : World) :
    Calls Tryd.prog 55 #[.int .i64 n] w fun e w' => e = .returned (.int .i64 ((n + 16) / 8)) ∧ w' = w := Any.bytealg_Cutover Tryd.lays224 n h0 h1 w
def Tryd.lays314_ren : Go.Shelf.Ren := ⟨fun | 314 => 83 | n => n, fun | 9 => 9 | 51 => 91 | 3 => 3 | 4 => 4 | 5 => 5 | 46 => 59 | n => n, fun | n => n⟩
theorem Tryd.lays314 : Go.Proofs.Lays.n314 Tryd.prog Tryd.lays314_ren := {
  mixed := by kernel_rfl
  f314 := Tryd.func83.trans (congrArg some (by kernel_rfl))
  t3 := Tryd.underlying3
  a3 := Tryd.isAgg3
  z3 := Tryd.sizeOf3
  v3 := Tryd.zeroValue3
  t4 := Tryd.underlying4
  a4 := Tryd.isAgg4
  z4 := Tryd.sizeOf4
  v4 := Tryd.zeroValue4
  t5 := Tryd.underlying5
  a5 := Tryd.isAgg5
  z5 := Tryd.sizeOf5
  v5 := Tryd.zeroValue5
  t9 := Tryd.underlying9
  a9 := Tryd.isAgg9
  z9 := Tryd.sizeOf9
  v9 := Tryd.zeroValue9
  t46 := Tryd.underlying59
  a46 := Tryd.isAgg59
  z46 := Tryd.sizeOf59
  v46 := Tryd.zeroValue59
  t51 := Tryd.underlying91
  a51 := Tryd.isAgg91
  z51 := Tryd.sizeOf91
  v51 := Tryd.zeroValue91 }
open Go.RowKit Go.Lib in
/-- hashStr: "returns the hash and the appropriate multiplicative factor for use in Rabin-Karp algorithm": THE HASH OF ALL OF sep, AND 16777619 ^ len(sep), both in uint32. (LAID: no walk: one application.) -/
theorem Tryd.bytealg_hashStr (sep : ByteArray) (hs : sep.size < 4294967281) (w : World) :
    Calls Tryd.prog 83 #[.string sep] w fun e w' => e = .returned (.tuple #[.int .u32 (RK.H sep.data.toList % 4294967296), .int .u32 (16777619 ^ sep.size % 4294967296)]) ∧ w' = w := Any.bytealg_hashStr Tryd.lays314 sep hs w
def Tryd.lays267_ren : Go.Shelf.Ren := ⟨fun | 267 => 67 | 314 => 83 | n => n, fun | 9 => 9 | 3 => 3 | 146 => 92 | 51 => 91 | 4 => 4 | 5 => 5 | 46 => 59 | n => n, fun | n => n⟩
theorem Tryd.lays267 : Go.Proofs.Lays.n267 Tryd.prog Tryd.lays267_ren := {
  mixed := by kernel_rfl
  f267 := Tryd.func67.trans (congrArg some (by kernel_rfl))
  f314 := Tryd.func83.trans (congrArg some (by kernel_rfl))
  t3 := Tryd.underlying3
  a3 := Tryd.isAgg3
  z3 := Tryd.sizeOf3
  v3 := Tryd.zeroValue3
  t4 := Tryd.underlying4
  a4 := Tryd.isAgg4
  z4 := Tryd.sizeOf4
  v4 := Tryd.zeroValue4
  t5 := Tryd.underlying5
  a5 := Tryd.isAgg5
  z5 := Tryd.sizeOf5
  v5 := Tryd.zeroValue5
  t9 := Tryd.underlying9
  a9 := Tryd.isAgg9
  z9 := Tryd.sizeOf9
  v9 := Tryd.zeroValue9
  t46 := Tryd.underlying59
  a46 := Tryd.isAgg59
  z46 := Tryd.sizeOf59
  v46 := Tryd.zeroValue59
  t51 := Tryd.underlying91
  a51 := Tryd.isAgg91
  z51 := Tryd.sizeOf91
  v51 := Tryd.zeroValue91
  t146 := Tryd.underlying92
  a146 := Tryd.isAgg92
  z146 := Tryd.sizeOf92
  v146 := Tryd.zeroValue92 }
open Go.RowKit Go.Lib in
theorem Tryd.bytealg_IndexRabinKarp (s sep : ByteArray) (h1 : 1 ≤ sep.size) (h2 : sep.size ≤ s.size) (hs : s.size < 4294967281) (w : World) :
    Calls Tryd.prog 67 #[.string s, .string sep] w fun e w' => e = .returned (.int .i64 (Lib.index s.data.toList sep.data.toList)) ∧ w' = w := Any.bytealg_IndexRabinKarp Tryd.lays267 s sep h1 h2 hs w
def Tryd.lays219_ren : Go.Shelf.Ren := ⟨fun | 219 => 52 | 217 => 66 | 225 => 56 | 224 => 55 | 267 => 67 | 266 => 82 | 314 => 83 | n => n, fun | 9 => 9 | 3 => 3 | 4 => 4 | 5 => 5 | 46 => 59 | 146 => 92 | 51 => 91 | n => n, fun | 1 => 0 | n => n⟩
theorem Tryd.lays219 : Go.Proofs.Lays.n219 Tryd.prog Tryd.lays219_ren := {
  mixed := by kernel_rfl
  f217 := Tryd.func66.trans (congrArg some (by kernel_rfl))
  f219 := Tryd.func52.trans (congrArg some (by kernel_rfl))
  f224 := Tryd.func55.trans (congrArg some (by kernel_rfl))
  f225 := Tryd.func56.trans (congrArg some (by kernel_rfl))
  f266 := Tryd.func82.trans (congrArg some (by kernel_rfl))
  f267 := Tryd.func67.trans (congrArg some (by kernel_rfl))
  f314 := Tryd.func83.trans (congrArg some (by kernel_rfl))
  t3 := Tryd.underlying3
  a3 := Tryd.isAgg3
  z3 := Tryd.sizeOf3
  v3 := Tryd.zeroValue3
  t4 := Tryd.underlying4
  a4 := Tryd.isAgg4
  z4 := Tryd.sizeOf4
  v4 := Tryd.zeroValue4
  t5 := Tryd.underlying5
  a5 := Tryd.isAgg5
  z5 := Tryd.sizeOf5
  v5 := Tryd.zeroValue5
  t9 := Tryd.underlying9
  a9 := Tryd.isAgg9
  z9 := Tryd.sizeOf9
  v9 := Tryd.zeroValue9
  t46 := Tryd.underlying59
  a46 := Tryd.isAgg59
  z46 := Tryd.sizeOf59
  v46 := Tryd.zeroValue59
  t51 := Tryd.underlying91
  a51 := Tryd.isAgg91
  z51 := Tryd.sizeOf91
  v51 := Tryd.zeroValue91
  t146 := Tryd.underlying92
  a146 := Tryd.isAgg92
  z146 := Tryd.sizeOf92
  v146 := Tryd.zeroValue92
  g1 := by kernel_rfl }
open Go.RowKit Go.Lib in
/-- internal/stringslite.Index (what strings.Index calls) AT A substr OF ONE BYTE c: IT RETURNS 'Lib.indexByte s c'; the world is as it was. (LAID: no walk: one application.) -/
theorem Tryd.stringslite_Index_one (s : ByteArray) (c : UInt8) (w : World) :
    Calls Tryd.prog 52 #[.string s, .string ⟨#[c]⟩] w fun e w' => e = .returned (.int .i64 (Lib.indexByte s.data.toList c)) ∧ w' = w := Any.stringslite_Index_one Tryd.lays219 s c w
open Go.RowKit Go.Lib in
/-- internal/stringslite.Index (what strings.Index calls) AT A substr OF WHATEVER LENGTH: IT RETURNS 'Lib.index s substr'; the world is as it was. 'm': what internal/bytealg.MaxLen holds: whatever. (LAID: no walk: one application.) -/
theorem Tryd.stringslite_Index (s sub : ByteArray) (m : Int) (w : World) (hs : s.size < 4294967281) (hm : w.cell? ⟨0, 0, none⟩ = some (.int .i64 m)) :
    Calls Tryd.prog 52 #[.string s, .string sub] w fun e w' => e = .returned (.int .i64 (Lib.index s.data.toList sub.data.toList)) ∧ w' = w := Any.stringslite_Index Tryd.lays219 s sub m w hs hm
def Tryd.lays143_ren : Go.Shelf.Ren := ⟨fun | 143 => 39 | 219 => 52 | 217 => 66 | 225 => 56 | 224 => 55 | 267 => 67 | 266 => 82 | 314 => 83 | n => n, fun | 9 => 9 | 3 => 3 | 4 => 4 | 5 => 5 | 46 => 59 | 146 => 92 | 51 => 91 | n => n, fun | 1 => 0 | n => n⟩
theorem Tryd.lays143 : Go.Proofs.Lays.n143 Tryd.prog Tryd.lays143_ren := {
  mixed := by kernel_rfl
  f143 := Tryd.func39.trans (congrArg some (by kernel_rfl))
  f217 := Tryd.func66.trans (congrArg some (by kernel_rfl))
  f219 := Tryd.func52.trans (congrArg some (by kernel_rfl))
  f224 := Tryd.func55.trans (congrArg some (by kernel_rfl))
  f225 := Tryd.func56.trans (congrArg some (by kernel_rfl))
  f266 := Tryd.func82.trans (congrArg some (by kernel_rfl))
  f267 := Tryd.func67.trans (congrArg some (by kernel_rfl))
  f314 := Tryd.func83.trans (congrArg some (by kernel_rfl))
  t3 := Tryd.underlying3
  a3 := Tryd.isAgg3
  z3 := Tryd.sizeOf3
  v3 := Tryd.zeroValue3
  t4 := Tryd.underlying4
  a4 := Tryd.isAgg4
  z4 := Tryd.sizeOf4
  v4 := Tryd.zeroValue4
  t5 := Tryd.underlying5
  a5 := Tryd.isAgg5
  z5 := Tryd.sizeOf5
  v5 := Tryd.zeroValue5
  t9 := Tryd.underlying9
  a9 := Tryd.isAgg9
  z9 := Tryd.sizeOf9
  v9 := Tryd.zeroValue9
  t46 := Tryd.underlying59
  a46 := Tryd.isAgg59
  z46 := Tryd.sizeOf59
  v46 := Tryd.zeroValue59
  t51 := Tryd.underlying91
  a51 := Tryd.isAgg91
  z51 := Tryd.sizeOf91
  v51 := Tryd.zeroValue91
  t146 := Tryd.underlying92
  a146 := Tryd.isAgg92
  z146 := Tryd.sizeOf92
  v146 := Tryd.zeroValue92
  g1 := by kernel_rfl }
open Go.RowKit Go.Lib in
/-- strings.Index: "Index returns the index of the first instance of substr in s, or -1 if substr is not present in s.": AT A substr OF ONE BYTE c: IT RETURNS 'Lib.indexByte s c'; the world is as it was. (LAID: no walk: one application.) -/
theorem Tryd.strings_Index_one (s : ByteArray) (c : UInt8) (w : World) :
    Calls Tryd.prog 39 #[.string s, .string ⟨#[c]⟩] w fun e w' => e = .returned (.int .i64 (Lib.indexByte s.data.toList c)) ∧ w' = w := Any.strings_Index_one Tryd.lays143 s c w
open Go.RowKit Go.Lib in
/-- strings.Index: "Index returns the index of the first instance of substr in s, or -1 if substr is not present in s.": IT RETURNS 'Lib.index s substr'; the world is as it was. (LAID: no walk: one application.) -/
theorem Tryd.strings_Index (s sub : ByteArray) (m : Int) (w : World) (hs : s.size < 4294967281) (hm : w.cell? ⟨0, 0, none⟩ = some (.int .i64 m)) :
    Calls Tryd.prog 39 #[.string s, .string sub] w fun e w' => e = .returned (.int .i64 (Lib.index s.data.toList sub.data.toList)) ∧ w' = w := Any.strings_Index Tryd.lays143 s sub m w hs hm
def Tryd.lays144_ren : Go.Shelf.Ren := ⟨fun | 144 => 21 | 143 => 39 | 219 => 52 | 217 => 66 | 225 => 56 | 224 => 55 | 267 => 67 | 266 => 82 | 314 => 83 | n => n, fun | 9 => 9 | 4 => 4 | 3 => 3 | 5 => 5 | 46 => 59 | 146 => 92 | 51 => 91 | n => n, fun | 1 => 0 | n => n⟩
theorem Tryd.lays144 : Go.Proofs.Lays.n144 Tryd.prog Tryd.lays144_ren := {
  mixed := by kernel_rfl
  f143 := Tryd.func39.trans (congrArg some (by kernel_rfl))
  f144 := Tryd.func21.trans (congrArg some (by kernel_rfl))
  f217 := Tryd.func66.trans (congrArg some (by kernel_rfl))
  f219 := Tryd.func52.trans (congrArg some (by kernel_rfl))
  f224 := Tryd.func55.trans (congrArg some (by kernel_rfl))
  f225 := Tryd.func56.trans (congrArg some (by kernel_rfl))
  f266 := Tryd.func82.trans (congrArg some (by kernel_rfl))
  f267 := Tryd.func67.trans (congrArg some (by kernel_rfl))
  f314 := Tryd.func83.trans (congrArg some (by kernel_rfl))
  t3 := Tryd.underlying3
  a3 := Tryd.isAgg3
  z3 := Tryd.sizeOf3
  v3 := Tryd.zeroValue3
  t4 := Tryd.underlying4
  a4 := Tryd.isAgg4
  z4 := Tryd.sizeOf4
  v4 := Tryd.zeroValue4
  t5 := Tryd.underlying5
  a5 := Tryd.isAgg5
  z5 := Tryd.sizeOf5
  v5 := Tryd.zeroValue5
  t9 := Tryd.underlying9
  a9 := Tryd.isAgg9
  z9 := Tryd.sizeOf9
  v9 := Tryd.zeroValue9
  t46 := Tryd.underlying59
  a46 := Tryd.isAgg59
  z46 := Tryd.sizeOf59
  v46 := Tryd.zeroValue59
  t51 := Tryd.underlying91
  a51 := Tryd.isAgg91
  z51 := Tryd.sizeOf91
  v51 := Tryd.zeroValue91
  t146 := Tryd.underlying92
  a146 := Tryd.isAgg92
  z146 := Tryd.sizeOf92
  v146 := Tryd.zeroValue92
  g1 := by kernel_rfl }
open Go.RowKit Go.Lib in
/-- strings.Contains: "Contains reports whether substr is within s.": AT A substr OF ONE BYTE c: IT RETURNS 'decide (0 ≤ Lib.indexByte s c)'; the world is as it was. (LAID: no walk: one application.) -/
theorem Tryd.strings_Contains_one (s : ByteArray) (c : UInt8) (w : World) :
    Calls Tryd.prog 21 #[.string s, .string ⟨#[c]⟩] w fun e w' => e = .returned (.bool (decide (0 ≤ Lib.indexByte s.data.toList c))) ∧ w' = w := Any.strings_Contains_one Tryd.lays144 s c w
open Go.RowKit Go.Lib in
/-- strings.Contains: "Contains reports whether substr is within s.": IT RETURNS 'Lib.contains s substr'; the world is as it was. (LAID: no walk: one application.) -/
theorem Tryd.strings_Contains (s sub : ByteArray) (m : Int) (w : World) (hs : s.size < 4294967281) (hm : w.cell? ⟨0, 0, none⟩ = some (.int .i64 m)) :
    Calls Tryd.prog 21 #[.string s, .string sub] w fun e w' => e = .returned (.bool (Lib.contains s.data.toList sub.data.toList)) ∧ w' = w := Any.strings_Contains Tryd.lays144 s sub m w hs hm
def Tryd.lays220_ren : Go.Shelf.Ren := ⟨fun | 220 => 36 | 219 => 52 | 217 => 66 | 225 => 56 | 224 => 55 | 267 => 67 | 266 => 82 | 314 => 83 | n => n, fun | 9 => 9 | 4 => 4 | 3 => 3 | 5 => 5 | 46 => 59 | 146 => 92 | 51 => 91 | n => n, fun | 1 => 0 | n => n⟩
theorem Tryd.lays220 : Go.Proofs.Lays.n220 Tryd.prog Tryd.lays220_ren := {
  mixed := by kernel_rfl
  f217 := Tryd.func66.trans (congrArg some (by kernel_rfl))
  f219 := Tryd.func52.trans (congrArg some (by kernel_rfl))
  f220 := Tryd.func36.trans (congrArg some (by kernel_rfl))
  f224 := Tryd.func55.trans (congrArg some (by kernel_rfl))
  f225 := Tryd.func56.trans (congrArg some (by kernel_rfl))
  f266 := Tryd.func82.trans (congrArg some (by kernel_rfl))
  f267 := Tryd.func67.trans (congrArg some (by kernel_rfl))
  f314 := Tryd.func83.trans (congrArg some (by kernel_rfl))
  t3 := Tryd.underlying3
  a3 := Tryd.isAgg3
  z3 := Tryd.sizeOf3
  v3 := Tryd.zeroValue3
  t4 := Tryd.underlying4
  a4 := Tryd.isAgg4
  z4 := Tryd.sizeOf4
  v4 := Tryd.zeroValue4
  t5 := Tryd.underlying5
  a5 := Tryd.isAgg5
  z5 := Tryd.sizeOf5
  v5 := Tryd.zeroValue5
  t9 := Tryd.underlying9
  a9 := Tryd.isAgg9
  z9 := Tryd.sizeOf9
  v9 := Tryd.zeroValue9
  t46 := Tryd.underlying59
  a46 := Tryd.isAgg59
  z46 := Tryd.sizeOf59
  v46 := Tryd.zeroValue59
  t51 := Tryd.underlying91
  a51 := Tryd.isAgg91
  z51 := Tryd.sizeOf91
  v51 := Tryd.zeroValue91
  t146 := Tryd.underlying92
  a146 := Tryd.isAgg92
  z146 := Tryd.sizeOf92
  v146 := Tryd.zeroValue92
  g1 := by kernel_rfl }
open Go.RowKit Go.Lib in
/-- internal/stringslite.Cut (what strings.Cut calls): IT RETURNS 'Lib.cut s sep'; the world is as it was but for the count of draws. (LAID: no walk: one application.) -/
theorem Tryd.stringslite_Cut (s sep : ByteArray) (m : Int) (w : World) (hs : s.size < 4294967281) (hm : w.cell? ⟨0, 0, none⟩ = some (.int .i64 m)) :
    Calls Tryd.prog 36 #[.string s, .string sep] w fun e w' => e = .returned (.tuple #[.string ⟨(Lib.cut s.data.toList sep.data.toList).1.toArray⟩, .string ⟨(Lib.cut s.data.toList sep.data.toList).2.1.toArray⟩, .bool (Lib.cut s.data.toList sep.data.toList).2.2]) ∧ ∃ n, w' = w.drewN n := Any.stringslite_Cut Tryd.lays220 s sep m w hs hm
def Tryd.lays145_ren : Go.Shelf.Ren := ⟨fun | 145 => 18 | 220 => 36 | 219 => 52 | 217 => 66 | 225 => 56 | 224 => 55 | 267 => 67 | 266 => 82 | 314 => 83 | n => n, fun | 9 => 9 | 4 => 4 | 59 => 45 | 3 => 3 | 5 => 5 | 46 => 59 | 146 => 92 | 51 => 91 | n => n, fun | 1 => 0 | n => n⟩
theorem Tryd.lays145 : Go.Proofs.Lays.n145 Tryd.prog Tryd.lays145_ren := {
  mixed := by kernel_rfl
  f145 := Tryd.func18.trans (congrArg some (by kernel_rfl))
  f217 := Tryd.func66.trans (congrArg some (by kernel_rfl))
  f219 := Tryd.func52.trans (congrArg some (by kernel_rfl))
  f220 := Tryd.func36.trans (congrArg some (by kernel_rfl))
  f224 := Tryd.func55.trans (congrArg some (by kernel_rfl))
  f225 := Tryd.func56.trans (congrArg some (by kernel_rfl))
  f266 := Tryd.func82.trans (congrArg some (by kernel_rfl))
  f267 := Tryd.func67.trans (congrArg some (by kernel_rfl))
  f314 := Tryd.func83.trans (congrArg some (by kernel_rfl))
  t3 := Tryd.underlying3
  a3 := Tryd.isAgg3
  z3 := Tryd.sizeOf3
  v3 := Tryd.zeroValue3
  t4 := Tryd.underlying4
  a4 := Tryd.isAgg4
  z4 := Tryd.sizeOf4
  v4 := Tryd.zeroValue4
  t5 := Tryd.underlying5
  a5 := Tryd.isAgg5
  z5 := Tryd.sizeOf5
  v5 := Tryd.zeroValue5
  t9 := Tryd.underlying9
  a9 := Tryd.isAgg9
  z9 := Tryd.sizeOf9
  v9 := Tryd.zeroValue9
  t46 := Tryd.underlying59
  a46 := Tryd.isAgg59
  z46 := Tryd.sizeOf59
  v46 := Tryd.zeroValue59
  t51 := Tryd.underlying91
  a51 := Tryd.isAgg91
  z51 := Tryd.sizeOf91
  v51 := Tryd.zeroValue91
  t59 := Tryd.underlying45
  a59 := Tryd.isAgg45
  z59 := Tryd.sizeOf45
  v59 := Tryd.zeroValue45
  t146 := Tryd.underlying92
  a146 := Tryd.isAgg92
  z146 := Tryd.sizeOf92
  v146 := Tryd.zeroValue92
  g1 := by kernel_rfl }
open Go.RowKit Go.Lib in
/-- strings.Cut: "Cut slices s around the first instance of sep, returning the text before and after sep. The found result reports whether sep appears in s. If sep does not appear in s, cut returns s, "", false.": IT RETURNS 'Lib.cut s sep'; the world is as it was but for the count of draws. (LAID: no walk: one application.) -/
theorem Tryd.strings_Cut (s sep : ByteArray) (m : Int) (w : World) (hs : s.size < 4294967281) (hm : w.cell? ⟨0, 0, none⟩ = some (.int .i64 m)) :
    Calls Tryd.prog 18 #[.string s, .string sep] w fun e w' => e = .returned (.tuple #[.string ⟨(Lib.cut s.data.toList sep.data.toList).1.toArray⟩, .string ⟨(Lib.cut s.data.toList sep.data.toList).2.1.toArray⟩, .bool (Lib.cut s.data.toList sep.data.toList).2.2]) ∧ ∃ n, w' = w.drewN n := Any.strings_Cut Tryd.lays145 s sep m w hs hm
def Tryd.laysM219_ren : Go.Shelf.Ren := ⟨fun | 219 => 52 | 217 => 66 | 225 => 56 | 224 => 55 | 267 => 67 | 266 => 82 | 314 => 83 | n => n, fun | 9 => 9 | 3 => 3 | 4 => 4 | 5 => 5 | 46 => 59 | 146 => 92 | 51 => 91 | n => n, fun | 1 => 0 | n => n⟩
theorem Tryd.laysM219 : Go.Proofs.LaysM.n219 Tryd.prog Tryd.laysM219_ren := {
  mixed := by kernel_rfl
  f217 := Tryd.func66.trans (congrArg some (by kernel_rfl))
  f219 := Tryd.func52.trans (congrArg some (by kernel_rfl))
  f224 := Tryd.func55.trans (congrArg some (by kernel_rfl))
  f225 := Tryd.func56.trans (congrArg some (by kernel_rfl))
  f266 := Tryd.func82.trans (congrArg some (by kernel_rfl))
  f267 := Tryd.func67.trans (congrArg some (by kernel_rfl))
  f314 := Tryd.func83.trans (congrArg some (by kernel_rfl))
  t3 := Tryd.underlying3
  a3 := Tryd.isAgg3
  z3 := Tryd.sizeOf3
  v3 := Tryd.zeroValue3
  t4 := Tryd.underlying4
  a4 := Tryd.isAgg4
  z4 := Tryd.sizeOf4
  v4 := Tryd.zeroValue4
  t5 := Tryd.underlying5
  a5 := Tryd.isAgg5
  z5 := Tryd.sizeOf5
  v5 := Tryd.zeroValue5
  t9 := Tryd.underlying9
  a9 := Tryd.isAgg9
  z9 := Tryd.sizeOf9
  v9 := Tryd.zeroValue9
  t46 := Tryd.underlying59
  a46 := Tryd.isAgg59
  z46 := Tryd.sizeOf59
  v46 := Tryd.zeroValue59
  t51 := Tryd.underlying91
  a51 := Tryd.isAgg91
  z51 := Tryd.sizeOf91
  v51 := Tryd.zeroValue91
  t146 := Tryd.underlying92
  a146 := Tryd.isAgg92
  z146 := Tryd.sizeOf92
  v146 := Tryd.zeroValue92
  g1 := by kernel_rfl
  i3 := by kernel_rfl
  i4 := by kernel_rfl
  i5 := by kernel_rfl
  i9 := by kernel_rfl
  i46 := by kernel_rfl
  i51 := by kernel_rfl
  i146 := by kernel_rfl
  m1 := by kernel_rfl
  s1_3 := fun w h => Go.Proofs.cell_of_shapedOpen_int (zero := #[.int .i64 0]) (t := 3) h (of_decide_eq_true (by kernel_rfl)) (by kernel_rfl) rfl (by kernel_rfl) (by kernel_rfl) Tryd.underlying3 }
open Go.RowKit Go.Lib in
theorem Tryd.stringslite_Index_shaped (s sub : ByteArray) (w : World) (h : w.ShapedOpen Tryd.prog) (hs : s.size < 4294967281) :
    Calls Tryd.prog 52 #[.string s, .string sub] w fun e w' => e = .returned (.int .i64 (Lib.index s.data.toList sub.data.toList)) ∧ w' = w := Any.stringslite_Index_shaped Tryd.laysM219 s sub w h hs
def Tryd.laysM143_ren : Go.Shelf.Ren := ⟨fun | 143 => 39 | 219 => 52 | 217 => 66 | 225 => 56 | 224 => 55 | 267 => 67 | 266 => 82 | 314 => 83 | n => n, fun | 9 => 9 | 3 => 3 | 4 => 4 | 5 => 5 | 46 => 59 | 146 => 92 | 51 => 91 | n => n, fun | 1 => 0 | n => n⟩
theorem Tryd.laysM143 : Go.Proofs.LaysM.n143 Tryd.prog Tryd.laysM143_ren := {
  mixed := by kernel_rfl
  f143 := Tryd.func39.trans (congrArg some (by kernel_rfl))
  f217 := Tryd.func66.trans (congrArg some (by kernel_rfl))
  f219 := Tryd.func52.trans (congrArg some (by kernel_rfl))
  f224 := Tryd.func55.trans (congrArg some (by kernel_rfl))
  f225 := Tryd.func56.trans (congrArg some (by kernel_rfl))
  f266 := Tryd.func82.trans (congrArg some (by kernel_rfl))
  f267 := Tryd.func67.trans (congrArg some (by kernel_rfl))
  f314 := Tryd.func83.trans (congrArg some (by kernel_rfl))
  t3 := Tryd.underlying3
  a3 := Tryd.isAgg3
  z3 := Tryd.sizeOf3
  v3 := Tryd.zeroValue3
  t4 := Tryd.underlying4
  a4 := Tryd.isAgg4
  z4 := Tryd.sizeOf4
  v4 := Tryd.zeroValue4
  t5 := Tryd.underlying5
  a5 := Tryd.isAgg5
  z5 := Tryd.sizeOf5
  v5 := Tryd.zeroValue5
  t9 := Tryd.underlying9
  a9 := Tryd.isAgg9
  z9 := Tryd.sizeOf9
  v9 := Tryd.zeroValue9
  t46 := Tryd.underlying59
  a46 := Tryd.isAgg59
  z46 := Tryd.sizeOf59
  v46 := Tryd.zeroValue59
  t51 := Tryd.underlying91
  a51 := Tryd.isAgg91
  z51 := Tryd.sizeOf91
  v51 := Tryd.zeroValue91
  t146 := Tryd.underlying92
  a146 := Tryd.isAgg92
  z146 := Tryd.sizeOf92
  v146 := Tryd.zeroValue92
  g1 := by kernel_rfl
  i3 := by kernel_rfl
  i4 := by kernel_rfl
  i5 := by kernel_rfl
  i9 := by kernel_rfl
  i46 := by kernel_rfl
  i51 := by kernel_rfl
  i146 := by kernel_rfl
  m1 := by kernel_rfl
  s1_3 := fun w h => Go.Proofs.cell_of_shapedOpen_int (zero := #[.int .i64 0]) (t := 3) h (of_decide_eq_true (by kernel_rfl)) (by kernel_rfl) rfl (by kernel_rfl) (by kernel_rfl) Tryd.underlying3 }
open Go.RowKit Go.Lib in
theorem Tryd.strings_Index_shaped (s sub : ByteArray) (w : World) (h : w.ShapedOpen Tryd.prog) (hs : s.size < 4294967281) :
    Calls Tryd.prog 39 #[.string s, .string sub] w fun e w' => e = .returned (.int .i64 (Lib.index s.data.toList sub.data.toList)) ∧ w' = w := Any.strings_Index_shaped Tryd.laysM143 s sub w h hs
def Tryd.laysM144_ren : Go.Shelf.Ren := ⟨fun | 144 => 21 | 143 => 39 | 219 => 52 | 217 => 66 | 225 => 56 | 224 => 55 | 267 => 67 | 266 => 82 | 314 => 83 | n => n, fun | 9 => 9 | 4 => 4 | 3 => 3 | 5 => 5 | 46 => 59 | 146 => 92 | 51 => 91 | n => n, fun | 1 => 0 | n => n⟩
theorem Tryd.laysM144 : Go.Proofs.LaysM.n144 Tryd.prog Tryd.laysM144_ren := {
  mixed := by kernel_rfl
  f143 := Tryd.func39.trans (congrArg some (by kernel_rfl))
  f144 := Tryd.func21.trans (congrArg some (by kernel_rfl))
  f217 := Tryd.func66.trans (congrArg some (by kernel_rfl))
  f219 := Tryd.func52.trans (congrArg some (by kernel_rfl))
  f224 := Tryd.func55.trans (congrArg some (by kernel_rfl))
  f225 := Tryd.func56.trans (congrArg some (by kernel_rfl))
  f266 := Tryd.func82.trans (congrArg some (by kernel_rfl))
  f267 := Tryd.func67.trans (congrArg some (by kernel_rfl))
  f314 := Tryd.func83.trans (congrArg some (by kernel_rfl))
  t3 := Tryd.underlying3
  a3 := Tryd.isAgg3
  z3 := Tryd.sizeOf3
  v3 := Tryd.zeroValue3
  t4 := Tryd.underlying4
  a4 := Tryd.isAgg4
  z4 := Tryd.sizeOf4
  v4 := Tryd.zeroValue4
  t5 := Tryd.underlying5
  a5 := Tryd.isAgg5
  z5 := Tryd.sizeOf5
  v5 := Tryd.zeroValue5
  t9 := Tryd.underlying9
  a9 := Tryd.isAgg9
  z9 := Tryd.sizeOf9
  v9 := Tryd.zeroValue9
  t46 := Tryd.underlying59
  a46 := Tryd.isAgg59
  z46 := Tryd.sizeOf59
  v46 := Tryd.zeroValue59
  t51 := Tryd.underlying91
  a51 := Tryd.isAgg91
  z51 := Tryd.sizeOf91
  v51 := Tryd.zeroValue91
  t146 := Tryd.underlying92
  a146 := Tryd.isAgg92
  z146 := Tryd.sizeOf92
  v146 := Tryd.zeroValue92
  g1 := by kernel_rfl
  i3 := by kernel_rfl
  i4 := by kernel_rfl
  i5 := by kernel_rfl
  i9 := by kernel_rfl
  i46 := by kernel_rfl
  i51 := by kernel_rfl
  i146 := by kernel_rfl
  m1 := by kernel_rfl
  s1_3 := fun w h => Go.Proofs.cell_of_shapedOpen_int (zero := #[.int .i64 0]) (t := 3) h (of_decide_eq_true (by kernel_rfl)) (by kernel_rfl) rfl (by kernel_rfl) (by kernel_rfl) Tryd.underlying3 }
open Go.RowKit Go.Lib in
theorem Tryd.strings_Contains_shaped (s sub : ByteArray) (w : World) (h : w.ShapedOpen Tryd.prog) (hs : s.size < 4294967281) :
    Calls Tryd.prog 21 #[.string s, .string sub] w fun e w' => e = .returned (.bool (Lib.contains s.data.toList sub.data.toList)) ∧ w' = w := Any.strings_Contains_shaped Tryd.laysM144 s sub w h hs
def Tryd.laysM220_ren : Go.Shelf.Ren := ⟨fun | 220 => 36 | 219 => 52 | 217 => 66 | 225 => 56 | 224 => 55 | 267 => 67 | 266 => 82 | 314 => 83 | n => n, fun | 9 => 9 | 4 => 4 | 3 => 3 | 5 => 5 | 46 => 59 | 146 => 92 | 51 => 91 | n => n, fun | 1 => 0 | n => n⟩
theorem Tryd.laysM220 : Go.Proofs.LaysM.n220 Tryd.prog Tryd.laysM220_ren := {
  mixed := by kernel_rfl
  f217 := Tryd.func66.trans (congrArg some (by kernel_rfl))
  f219 := Tryd.func52.trans (congrArg some (by kernel_rfl))
  f220 := Tryd.func36.trans (congrArg some (by kernel_rfl))
  f224 := Tryd.func55.trans (congrArg some (by kernel_rfl))
  f225 := Tryd.func56.trans (congrArg some (by kernel_rfl))
  f266 := Tryd.func82.trans (congrArg some (by kernel_rfl))
  f267 := Tryd.func67.trans (congrArg some (by kernel_rfl))
  f314 := Tryd.func83.trans (congrArg some (by kernel_rfl))
  t3 := Tryd.underlying3
  a3 := Tryd.isAgg3
  z3 := Tryd.sizeOf3
  v3 := Tryd.zeroValue3
  t4 := Tryd.underlying4
  a4 := Tryd.isAgg4
  z4 := Tryd.sizeOf4
  v4 := Tryd.zeroValue4
  t5 := Tryd.underlying5
  a5 := Tryd.isAgg5
  z5 := Tryd.sizeOf5
  v5 := Tryd.zeroValue5
  t9 := Tryd.underlying9
  a9 := Tryd.isAgg9
  z9 := Tryd.sizeOf9
  v9 := Tryd.zeroValue9
  t46 := Tryd.underlying59
  a46 := Tryd.isAgg59
  z46 := Tryd.sizeOf59
  v46 := Tryd.zeroValue59
  t51 := Tryd.underlying91
  a51 := Tryd.isAgg91
  z51 := Tryd.sizeOf91
  v51 := Tryd.zeroValue91
  t146 := Tryd.underlying92
  a146 := Tryd.isAgg92
  z146 := Tryd.sizeOf92
  v146 := Tryd.zeroValue92
  g1 := by kernel_rfl
  i3 := by kernel_rfl
  i4 := by kernel_rfl
  i5 := by kernel_rfl
  i9 := by kernel_rfl
  i46 := by kernel_rfl
  i51 := by kernel_rfl
  i146 := by kernel_rfl
  m1 := by kernel_rfl
  s1_3 := fun w h => Go.Proofs.cell_of_shapedOpen_int (zero := #[.int .i64 0]) (t := 3) h (of_decide_eq_true (by kernel_rfl)) (by kernel_rfl) rfl (by kernel_rfl) (by kernel_rfl) Tryd.underlying3 }
open Go.RowKit Go.Lib in
theorem Tryd.stringslite_Cut_shaped (s sep : ByteArray) (w : World) (h : w.ShapedOpen Tryd.prog) (hs : s.size < 4294967281) :
    Calls Tryd.prog 36 #[.string s, .string sep] w fun e w' => e = .returned (.tuple #[.string ⟨(Lib.cut s.data.toList sep.data.toList).1.toArray⟩, .string ⟨(Lib.cut s.data.toList sep.data.toList).2.1.toArray⟩, .bool (Lib.cut s.data.toList sep.data.toList).2.2]) ∧ ∃ n, w' = w.drewN n := Any.stringslite_Cut_shaped Tryd.laysM220 s sep w h hs
def Tryd.laysM145_ren : Go.Shelf.Ren := ⟨fun | 145 => 18 | 220 => 36 | 219 => 52 | 217 => 66 | 225 => 56 | 224 => 55 | 267 => 67 | 266 => 82 | 314 => 83 | n => n, fun | 9 => 9 | 4 => 4 | 59 => 45 | 3 => 3 | 5 => 5 | 46 => 59 | 146 => 92 | 51 => 91 | n => n, fun | 1 => 0 | n => n⟩
theorem Tryd.laysM145 : Go.Proofs.LaysM.n145 Tryd.prog Tryd.laysM145_ren := {
  mixed := by kernel_rfl
  f145 := Tryd.func18.trans (congrArg some (by kernel_rfl))
  f217 := Tryd.func66.trans (congrArg some (by kernel_rfl))
  f219 := Tryd.func52.trans (congrArg some (by kernel_rfl))
  f220 := Tryd.func36.trans (congrArg some (by kernel_rfl))
  f224 := Tryd.func55.trans (congrArg some (by kernel_rfl))
  f225 := Tryd.func56.trans (congrArg some (by kernel_rfl))
  f266 := Tryd.func82.trans (congrArg some (by kernel_rfl))
  f267 := Tryd.func67.trans (congrArg some (by kernel_rfl))
  f314 := Tryd.func83.trans (congrArg some (by kernel_rfl))
  t3 := Tryd.underlying3
  a3 := Tryd.isAgg3
  z3 := Tryd.sizeOf3
  v3 := Tryd.zeroValue3
  t4 := Tryd.underlying4
  a4 := Tryd.isAgg4
  z4 := Tryd.sizeOf4
  v4 := Tryd.zeroValue4
  t5 := Tryd.underlying5
  a5 := Tryd.isAgg5
  z5 := Tryd.sizeOf5
  v5 := Tryd.zeroValue5
  t9 := Tryd.underlying9
  a9 := Tryd.isAgg9
  z9 := Tryd.sizeOf9
  v9 := Tryd.zeroValue9
  t46 := Tryd.underlying59
  a46 := Tryd.isAgg59
  z46 := Tryd.sizeOf59
  v46 := Tryd.zeroValue59
  t51 := Tryd.underlying91
  a51 := Tryd.isAgg91
  z51 := Tryd.sizeOf91
  v51 := Tryd.zeroValue91
  t59 := Tryd.underlying45
  a59 := Tryd.isAgg45
  z59 := Tryd.sizeOf45
  v59 := Tryd.zeroValue45
  t146 := Tryd.underlying92
  a146 := Tryd.isAgg92
  z146 := Tryd.sizeOf92
  v146 := Tryd.zeroValue92
  g1 := by kernel_rfl
  i3 := by kernel_rfl
  i4 := by kernel_rfl
  i5 := by kernel_rfl
  i9 := by kernel_rfl
  i46 := by kernel_rfl
  i51 := by kernel_rfl
  i59 := by kernel_rfl
  i146 := by kernel_rfl
  m1 := by kernel_rfl
  s1_3 := fun w h => Go.Proofs.cell_of_shapedOpen_int (zero := #[.int .i64 0]) (t := 3) h (of_decide_eq_true (by kernel_rfl)) (by kernel_rfl) rfl (by kernel_rfl) (by kernel_rfl) Tryd.underlying3 }
open Go.RowKit Go.Lib in
theorem Tryd.strings_Cut_shaped (s sep : ByteArray) (w : World) (h : w.ShapedOpen Tryd.prog) (hs : s.size < 4294967281) :
    Calls Tryd.prog 18 #[.string s, .string sep] w fun e w' => e = .returned (.tuple #[.string ⟨(Lib.cut s.data.toList sep.data.toList).1.toArray⟩, .string ⟨(Lib.cut s.data.toList sep.data.toList).2.1.toArray⟩, .bool (Lib.cut s.data.toList sep.data.toList).2.2]) ∧ ∃ n, w' = w.drewN n := Any.strings_Cut_shaped Tryd.laysM145 s sep w h hs
def Tryd.lays222_ren : Go.Shelf.Ren := ⟨fun | 222 => 38 | n => n, fun | 9 => 9 | 5 => 5 | 3 => 3 | 4 => 4 | n => n, fun | n => n⟩
theorem Tryd.lays222 : Go.Proofs.Lays.n222 Tryd.prog Tryd.lays222_ren := {
  mixed := by kernel_rfl
  f222 := Tryd.func38.trans (congrArg some (by kernel_rfl))
  t3 := Tryd.underlying3
  a3 := Tryd.isAgg3
  z3 := Tryd.sizeOf3
  v3 := Tryd.zeroValue3
  t4 := Tryd.underlying4
  a4 := Tryd.isAgg4
  z4 := Tryd.sizeOf4
  v4 := Tryd.zeroValue4
  t5 := Tryd.underlying5
  a5 := Tryd.isAgg5
  z5 := Tryd.sizeOf5
  v5 := Tryd.zeroValue5
  t9 := Tryd.underlying9
  a9 := Tryd.isAgg9
  z9 := Tryd.sizeOf9
  v9 := Tryd.zeroValue9 }
open Go.RowKit Go.Lib in
/-- internal/bytealg.LastIndexByteString: 'for i := len(s) - 1; i >= 0; i-- { if s[i] == c { return i } }; return -1'. (LAID: no walk: one application.) -/
theorem Tryd.bytealg_LastIndexByteString_nm (s : ByteArray) (c : Int) (hs : s.size < 4611686018427387904) (w : World) :
    Calls Tryd.prog 38 #[.string s, .int .u8 c] w fun e w' => e = .returned (.int .i64 (Lib.lastIndexByte s c)) ∧ w' = w := Any.bytealg_LastIndexByteString_nm Tryd.lays222 s c hs w
def Tryd.lays149_ren : Go.Shelf.Ren := ⟨fun | 149 => 20 | 222 => 38 | n => n, fun | 9 => 9 | 5 => 5 | 3 => 3 | 4 => 4 | n => n, fun | n => n⟩
theorem Tryd.lays149 : Go.Proofs.Lays.n149 Tryd.prog Tryd.lays149_ren := {
  mixed := by kernel_rfl
  f149 := Tryd.func20.trans (congrArg some (by kernel_rfl))
  f222 := Tryd.func38.trans (congrArg some (by kernel_rfl))
  t3 := Tryd.underlying3
  a3 := Tryd.isAgg3
  z3 := Tryd.sizeOf3
  v3 := Tryd.zeroValue3
  t4 := Tryd.underlying4
  a4 := Tryd.isAgg4
  z4 := Tryd.sizeOf4
  v4 := Tryd.zeroValue4
  t5 := Tryd.underlying5
  a5 := Tryd.isAgg5
  z5 := Tryd.sizeOf5
  v5 := Tryd.zeroValue5
  t9 := Tryd.underlying9
  a9 := Tryd.isAgg9
  z9 := Tryd.sizeOf9
  v9 := Tryd.zeroValue9 }
open Go.RowKit Go.Lib in
/-- strings.LastIndexByte: "LastIndexByte returns the index of the last instance of c in s, or -1 if c is not present in s." (LAID: no walk: one application.) -/
theorem Tryd.strings_LastIndexByte (s : ByteArray) (c : Int) (hs : s.size < 4611686018427387904) (w : World) :
    Calls Tryd.prog 20 #[.string s, .int .u8 c] w fun e w' => e = .returned (.int .i64 (Lib.lastIndexByte s c)) ∧ w' = w := Any.strings_LastIndexByte Tryd.lays149 s c hs w
def Tryd.lays206_ren : Go.Shelf.Ren := ⟨fun | 206 => 59 | n => n, fun | 9 => 9 | 4 => 4 | 3 => 3 | n => n, fun | n => n⟩
theorem Tryd.lays206 : Go.Proofs.Lays.n206 Tryd.prog Tryd.lays206_ren := {
  mixed := by kernel_rfl
  f206 := Tryd.func59.trans (congrArg some (by kernel_rfl))
  t3 := Tryd.underlying3
  a3 := Tryd.isAgg3
  z3 := Tryd.sizeOf3
  v3 := Tryd.zeroValue3
  t4 := Tryd.underlying4
  a4 := Tryd.isAgg4
  z4 := Tryd.sizeOf4
  v4 := Tryd.zeroValue4
  t9 := Tryd.underlying9
  a9 := Tryd.isAgg9
  z9 := Tryd.sizeOf9
  v9 := Tryd.zeroValue9 }
open Go.RowKit Go.Lib in
/-- internal/stringslite.HasPrefix (what strings.HasPrefix calls). (LAID: no walk: one application.) -/
theorem Tryd.stringslite_HasPrefix (s p : ByteArray) (w : World) :
    Calls Tryd.prog 59 #[.string s, .string p] w fun e w' => e = .returned (.bool (Lib.hasPrefix s.data.toList p.data.toList)) ∧ w' = w := Any.stringslite_HasPrefix Tryd.lays206 s p w
def Tryd.lays152_ren : Go.Shelf.Ren := ⟨fun | 152 => 37 | 137 => 53 | 119 => 54 | 224 => 55 | 225 => 56 | 217 => 66 | 266 => 82 | n => n, fun | 9 => 9 | 21 => 21 | 3 => 3 | 4 => 4 | 5 => 5 | 0 => 0 | 46 => 59 | n => n, fun | n => n⟩
theorem Tryd.lays152 : Go.Proofs.Lays.n152 Tryd.prog Tryd.lays152_ren := {
  mixed := by kernel_rfl
  f119 := Tryd.func54.trans (congrArg some (by kernel_rfl))
  f137 := Tryd.func53.trans (congrArg some (by kernel_rfl))
  f152 := Tryd.func37.trans (congrArg some (by kernel_rfl))
  f217 := Tryd.func66.trans (congrArg some (by kernel_rfl))
  f224 := Tryd.func55.trans (congrArg some (by kernel_rfl))
  f225 := Tryd.func56.trans (congrArg some (by kernel_rfl))
  f266 := Tryd.func82.trans (congrArg some (by kernel_rfl))
  t0 := Tryd.underlying0
  a0 := Tryd.isAgg0
  z0 := Tryd.sizeOf0
  v0 := Tryd.zeroValue0
  t3 := Tryd.underlying3
  a3 := Tryd.isAgg3
  z3 := Tryd.sizeOf3
  v3 := Tryd.zeroValue3
  t4 := Tryd.underlying4
  a4 := Tryd.isAgg4
  z4 := Tryd.sizeOf4
  v4 := Tryd.zeroValue4
  t5 := Tryd.underlying5
  a5 := Tryd.isAgg5
  z5 := Tryd.sizeOf5
  v5 := Tryd.zeroValue5
  t9 := Tryd.underlying9
  a9 := Tryd.isAgg9
  z9 := Tryd.sizeOf9
  v9 := Tryd.zeroValue9
  t21 := Tryd.underlying21
  a21 := Tryd.isAgg21
  z21 := Tryd.sizeOf21
  v21 := Tryd.zeroValue21
  t46 := Tryd.underlying59
  a46 := Tryd.isAgg59
  z46 := Tryd.sizeOf59
  v46 := Tryd.zeroValue59 }
open Go.RowKit Go.Lib in
theorem Tryd.strings_IndexRune_ascii (s : ByteArray) (r : Int) (w : World) (h0 : 0 ≤ r) (h1 : r < 128) :
    Calls Tryd.prog 37 #[.string s, .int .i32 r] w fun e w' => e = .returned (.int .i64 (Lib.indexByte s.data.toList r.toNat.toUInt8)) ∧ w' = w := Any.strings_IndexRune_ascii Tryd.lays152 s r w h0 h1
def Tryd.lays151_ren : Go.Shelf.Ren := ⟨fun | 151 => 85 | 152 => 37 | 137 => 53 | 119 => 54 | 224 => 55 | 225 => 56 | 217 => 66 | 266 => 82 | n => n, fun | 9 => 9 | 21 => 21 | 4 => 4 | 3 => 3 | 5 => 5 | 0 => 0 | 46 => 59 | n => n, fun | n => n⟩
theorem Tryd.lays151 : Go.Proofs.Lays.n151 Tryd.prog Tryd.lays151_ren := {
  mixed := by kernel_rfl
  f119 := Tryd.func54.trans (congrArg some (by kernel_rfl))
  f137 := Tryd.func53.trans (congrArg some (by kernel_rfl))
  f151 := Tryd.func85.trans (congrArg some (by kernel_rfl))
  f152 := Tryd.func37.trans (congrArg some (by kernel_rfl))
  f217 := Tryd.func66.trans (congrArg some (by kernel_rfl))
  f224 := Tryd.func55.trans (congrArg some (by kernel_rfl))
  f225 := Tryd.func56.trans (congrArg some (by kernel_rfl))
  f266 := Tryd.func82.trans (congrArg some (by kernel_rfl))
  t0 := Tryd.underlying0
  a0 := Tryd.isAgg0
  z0 := Tryd.sizeOf0
  v0 := Tryd.zeroValue0
  t3 := Tryd.underlying3
  a3 := Tryd.isAgg3
  z3 := Tryd.sizeOf3
  v3 := Tryd.zeroValue3
  t4 := Tryd.underlying4
  a4 := Tryd.isAgg4
  z4 := Tryd.sizeOf4
  v4 := Tryd.zeroValue4
  t5 := Tryd.underlying5
  a5 := Tryd.isAgg5
  z5 := Tryd.sizeOf5
  v5 := Tryd.zeroValue5
  t9 := Tryd.underlying9
  a9 := Tryd.isAgg9
  z9 := Tryd.sizeOf9
  v9 := Tryd.zeroValue9
  t21 := Tryd.underlying21
  a21 := Tryd.isAgg21
  z21 := Tryd.sizeOf21
  v21 := Tryd.zeroValue21
  t46 := Tryd.underlying59
  a46 := Tryd.isAgg59
  z46 := Tryd.sizeOf59
  v46 := Tryd.zeroValue59 }
open Go.RowKit Go.Lib in
theorem Tryd.strings_ContainsRune_ascii (s : ByteArray) (r : Int) (w : World) (h0 : 0 ≤ r) (h1 : r < 128) :
    Calls Tryd.prog 85 #[.string s, .int .i32 r] w fun e w' => e = .returned (.bool (decide (0 ≤ Lib.indexByte s.data.toList r.toNat.toUInt8))) ∧ w' = w := Any.strings_ContainsRune_ascii Tryd.lays151 s r w h0 h1
def Tryd.lays226_ren : Go.Shelf.Ren := ⟨fun | 226 => 70 | n => n, fun | 3 => 3 | 4 => 4 | n => n, fun | n => n⟩
theorem Tryd.lays226 : Go.Proofs.Lays.n226 Tryd.prog Tryd.lays226_ren := {
  mixed := by kernel_rfl
  f226 := Tryd.func70.trans (congrArg some (by kernel_rfl))
  t3 := Tryd.underlying3
  a3 := Tryd.isAgg3
  z3 := Tryd.sizeOf3
  v3 := Tryd.zeroValue3
  t4 := Tryd.underlying4
  a4 := Tryd.isAgg4
  z4 := Tryd.sizeOf4
  v4 := Tryd.zeroValue4 }
open Go.RowKit Go.Lib in
theorem Tryd.strings_shouldUseASCIISet (n : Int) (w : World) :
    Calls Tryd.prog 70 #[.int .i64 n] w fun e w' => e = .returned (.bool (decide (8 < n))) ∧ w' = w := Any.strings_shouldUseASCIISet Tryd.lays226 n w
def Tryd.lays153_ren : Go.Shelf.Ren := ⟨fun | 153 => 61 | 152 => 37 | 226 => 70 | 227 => 71 | 228 => 72 | 137 => 53 | 119 => 54 | 224 => 55 | 225 => 56 | 217 => 66 | 266 => 82 | n => n, fun | 9 => 9 | 3 => 3 | 4 => 4 | 5 => 5 | 21 => 21 | 117 => 83 | 116 => 82 | 0 => 0 | 46 => 59 | 124 => 87 | n => n, fun | n => n⟩
theorem Tryd.lays153 : Go.Proofs.Lays.n153 Tryd.prog Tryd.lays153_ren := {
  mixed := by kernel_rfl
  f119 := Tryd.func54.trans (congrArg some (by kernel_rfl))
  f137 := Tryd.func53.trans (congrArg some (by kernel_rfl))
  f152 := Tryd.func37.trans (congrArg some (by kernel_rfl))
  f153 := Tryd.func61.trans (congrArg some (by kernel_rfl))
  f217 := Tryd.func66.trans (congrArg some (by kernel_rfl))
  f224 := Tryd.func55.trans (congrArg some (by kernel_rfl))
  f225 := Tryd.func56.trans (congrArg some (by kernel_rfl))
  f226 := Tryd.func70.trans (congrArg some (by kernel_rfl))
  f227 := Tryd.func71.trans (congrArg some (by kernel_rfl))
  f228 := Tryd.func72.trans (congrArg some (by kernel_rfl))
  f266 := Tryd.func82.trans (congrArg some (by kernel_rfl))
  t0 := Tryd.underlying0
  a0 := Tryd.isAgg0
  z0 := Tryd.sizeOf0
  v0 := Tryd.zeroValue0
  t3 := Tryd.underlying3
  a3 := Tryd.isAgg3
  z3 := Tryd.sizeOf3
  v3 := Tryd.zeroValue3
  t4 := Tryd.underlying4
  a4 := Tryd.isAgg4
  z4 := Tryd.sizeOf4
  v4 := Tryd.zeroValue4
  t5 := Tryd.underlying5
  a5 := Tryd.isAgg5
  z5 := Tryd.sizeOf5
  v5 := Tryd.zeroValue5
  t9 := Tryd.underlying9
  a9 := Tryd.isAgg9
  z9 := Tryd.sizeOf9
  v9 := Tryd.zeroValue9
  t21 := Tryd.underlying21
  a21 := Tryd.isAgg21
  z21 := Tryd.sizeOf21
  v21 := Tryd.zeroValue21
  t46 := Tryd.underlying59
  a46 := Tryd.isAgg59
  z46 := Tryd.sizeOf59
  v46 := Tryd.zeroValue59
  t116 := Tryd.underlying82
  a116 := Tryd.isAgg82
  z116 := Tryd.sizeOf82
  t117 := Tryd.underlying83
  a117 := Tryd.isAgg83
  z117 := Tryd.sizeOf83
  v117 := Tryd.zeroValue83
  t124 := Tryd.underlying87
  a124 := Tryd.isAgg87
  z124 := Tryd.sizeOf87
  v124 := Tryd.zeroValue87 }
open Go.RowKit Go.Lib in
/-- chars is empty. (LAID: no walk: one application.) -/
theorem Tryd.strings_IndexAny_none (s chars : ByteArray) (w : World) (h0 : chars.size = 0) :
    Calls Tryd.prog 61 #[.string s, .string chars] w fun e w' => e = .returned (.int .i64 (Lib.indexAny s.data.toList chars.data.toList)) ∧ w' = w := Any.strings_IndexAny_none Tryd.lays153 s chars w h0
open Go.RowKit Go.Lib in
/-- chars is one ASCII byte. (LAID: no walk: one application.) -/
theorem Tryd.strings_IndexAny_one (s chars : ByteArray) (w : World) (h1 : chars.size = 1) (hascii : ∀ (j : Nat) b, chars.data.toList[j]? = some b → b.toNat < 128) :
    Calls Tryd.prog 61 #[.string s, .string chars] w fun e w' => e = .returned (.int .i64 (Lib.indexAny s.data.toList chars.data.toList)) ∧ w' = w := Any.strings_IndexAny_one Tryd.lays153 s chars w h1 hascii
open Go.RowKit Go.Lib in
/-- s of at most 8 bytes; chars of two or more: 'for i, c := range s { if IndexRune(chars, c) >= 0 { return i } }'. One block more: the model's iterator over s. (LAID: no walk: one application.) -/
theorem Tryd.strings_IndexAny_short (s chars : ByteArray) (w : World) (h2 : 2 ≤ chars.size) (h8 : s.size ≤ 8) (hascii : ∀ (j : Nat) b, s.data.toList[j]? = some b → b.toNat < 128) :
    Calls Tryd.prog 61 #[.string s, .string chars] w fun e w' => e = .returned (.int .i64 (Lib.indexAny s.data.toList chars.data.toList)) ∧ ∃ pos, w' = w.iter s pos := Any.strings_IndexAny_short Tryd.lays153 s chars w h2 h8 hascii
def Tryd.lays227_ren : Go.Shelf.Ren := ⟨fun | 227 => 71 | n => n, fun | 9 => 9 | 116 => 82 | 4 => 4 | 0 => 0 | 3 => 3 | 5 => 5 | n => n, fun | n => n⟩
theorem Tryd.lays227 : Go.Proofs.Lays.n227 Tryd.prog Tryd.lays227_ren := {
  mixed := by kernel_rfl
  f227 := Tryd.func71.trans (congrArg some (by kernel_rfl))
  t0 := Tryd.underlying0
  a0 := Tryd.isAgg0
  z0 := Tryd.sizeOf0
  v0 := Tryd.zeroValue0
  t3 := Tryd.underlying3
  a3 := Tryd.isAgg3
  z3 := Tryd.sizeOf3
  v3 := Tryd.zeroValue3
  t4 := Tryd.underlying4
  a4 := Tryd.isAgg4
  z4 := Tryd.sizeOf4
  v4 := Tryd.zeroValue4
  t5 := Tryd.underlying5
  a5 := Tryd.isAgg5
  z5 := Tryd.sizeOf5
  v5 := Tryd.zeroValue5
  t9 := Tryd.underlying9
  a9 := Tryd.isAgg9
  z9 := Tryd.sizeOf9
  v9 := Tryd.zeroValue9
  t116 := Tryd.underlying82
  a116 := Tryd.isAgg82
  z116 := Tryd.sizeOf82 }
open Go.RowKit Go.Lib in
theorem Tryd.strings_makeASCIISet (hv116 : ∀ w, (zeroValue 82).run Tryd.prog w = .ok (.agg (Array.replicate 256 (.bool false))) w) (chars : ByteArray) (w : World) (hs : chars.size < 4294967281) (hascii : ∀ (j : Nat) b, chars.data.toList[j]? = some b → b.toNat < 128) :
    Calls Tryd.prog 71 #[.string chars] w fun e w' => e = .returned (.tuple #[.agg (Lib.setCells chars.data.toList), .bool true]) ∧ w' = w.alloc (.cells (Lib.setCells chars.data.toList) 82) := Any.strings_makeASCIISet Tryd.lays227 hv116 (by kernel_rfl) chars w hs hascii
def Tryd.lays228_ren : Go.Shelf.Ren := ⟨fun | 228 => 72 | n => n, fun | 124 => 87 | 5 => 5 | 4 => 4 | 0 => 0 | 116 => 82 | n => n, fun | n => n⟩
theorem Tryd.lays228 : Go.Proofs.Lays.n228 Tryd.prog Tryd.lays228_ren := {
  mixed := by kernel_rfl
  f228 := Tryd.func72.trans (congrArg some (by kernel_rfl))
  t0 := Tryd.underlying0
  a0 := Tryd.isAgg0
  z0 := Tryd.sizeOf0
  v0 := Tryd.zeroValue0
  t4 := Tryd.underlying4
  a4 := Tryd.isAgg4
  z4 := Tryd.sizeOf4
  v4 := Tryd.zeroValue4
  t5 := Tryd.underlying5
  a5 := Tryd.isAgg5
  z5 := Tryd.sizeOf5
  v5 := Tryd.zeroValue5
  t116 := Tryd.underlying82
  a116 := Tryd.isAgg82
  z116 := Tryd.sizeOf82
  t124 := Tryd.underlying87
  a124 := Tryd.isAgg87
  z124 := Tryd.sizeOf87
  v124 := Tryd.zeroValue87 }
open Go.RowKit Go.Lib in
/-- '(as *asciiSet) contains(c)': 'as[c]': the set lies at block b, whole. (LAID: no walk: one application.) -/
theorem Tryd.asciiSet_contains (b : Nat) (x : UInt8) (v : Bool) (w : World) (hc : w.cell? ⟨b, x.toNat, none⟩ = some (.bool v)) :
    Calls Tryd.prog 72 #[.pointer (some ⟨b, 0, none⟩), .int .u8 x.toNat] w fun e w' => e = .returned (.bool v) ∧ w' = w := Any.asciiSet_contains Tryd.lays228 b x v w hc
open Go.RowKit Go.Lib in
theorem Tryd.strings_IndexAny_long (hv116 : ∀ w, (zeroValue 82).run Tryd.prog w = .ok (.agg (Array.replicate 256 (.bool false))) w) (s chars : ByteArray) (w : World) (h2 : 2 ≤ chars.size) (h8 : 8 < s.size) (hs : s.size < 4294967281) (hcs : chars.size < 4294967281) (hascii : ∀ (j : Nat) b, chars.data.toList[j]? = some b → b.toNat < 128) :
    Calls Tryd.prog 61 #[.string s, .string chars] w fun e w' => e = .returned (.int .i64 (Lib.indexAny s.data.toList chars.data.toList)) ∧ w' = ((w.alloc (.cells (Lib.setCells chars.data.toList) 82)).alloc (.cells (Lib.setCells chars.data.toList) 82)) := Any.strings_IndexAny_long Tryd.lays153 hv116 (by kernel_rfl) s chars w h2 h8 hs hcs hascii
open Go.RowKit Go.Lib in
/-- strings.IndexAny ON ASCII BYTES: the four roads under one statement. (LAID: no walk: one application.) -/
theorem Tryd.strings_IndexAny (hv116 : ∀ w, (zeroValue 82).run Tryd.prog w = .ok (.agg (Array.replicate 256 (.bool false))) w) (s chars : ByteArray) (w : World) (hs : s.size < 4294967281) (hcs : chars.size < 4294967281) (has : ∀ (j : Nat) b, s.data.toList[j]? = some b → b.toNat < 128) (hac : ∀ (j : Nat) b, chars.data.toList[j]? = some b → b.toNat < 128) :
    Calls Tryd.prog 61 #[.string s, .string chars] w fun e w' => e = .returned (.int .i64 (Lib.indexAny s.data.toList chars.data.toList)) ∧ Below w.heap.size w w' := Any.strings_IndexAny Tryd.lays153 hv116 (by kernel_rfl) s chars w hs hcs has hac
def Tryd.lays150_ren : Go.Shelf.Ren := ⟨fun | 150 => 46 | 153 => 61 | 152 => 37 | 226 => 70 | 227 => 71 | 228 => 72 | 137 => 53 | 119 => 54 | 224 => 55 | 225 => 56 | 217 => 66 | 266 => 82 | n => n, fun | 9 => 9 | 4 => 4 | 3 => 3 | 5 => 5 | 21 => 21 | 117 => 83 | 116 => 82 | 0 => 0 | 46 => 59 | 124 => 87 | n => n, fun | n => n⟩
theorem Tryd.lays150 : Go.Proofs.Lays.n150 Tryd.prog Tryd.lays150_ren := {
  mixed := by kernel_rfl
  f119 := Tryd.func54.trans (congrArg some (by kernel_rfl))
  f137 := Tryd.func53.trans (congrArg some (by kernel_rfl))
  f150 := Tryd.func46.trans (congrArg some (by kernel_rfl))
  f152 := Tryd.func37.trans (congrArg some (by kernel_rfl))
  f153 := Tryd.func61.trans (congrArg some (by kernel_rfl))
  f217 := Tryd.func66.trans (congrArg some (by kernel_rfl))
  f224 := Tryd.func55.trans (congrArg some (by kernel_rfl))
  f225 := Tryd.func56.trans (congrArg some (by kernel_rfl))
  f226 := Tryd.func70.trans (congrArg some (by kernel_rfl))
  f227 := Tryd.func71.trans (congrArg some (by kernel_rfl))
  f228 := Tryd.func72.trans (congrArg some (by kernel_rfl))
  f266 := Tryd.func82.trans (congrArg some (by kernel_rfl))
  t0 := Tryd.underlying0
  a0 := Tryd.isAgg0
  z0 := Tryd.sizeOf0
  v0 := Tryd.zeroValue0
  t3 := Tryd.underlying3
  a3 := Tryd.isAgg3
  z3 := Tryd.sizeOf3
  v3 := Tryd.zeroValue3
  t4 := Tryd.underlying4
  a4 := Tryd.isAgg4
  z4 := Tryd.sizeOf4
  v4 := Tryd.zeroValue4
  t5 := Tryd.underlying5
  a5 := Tryd.isAgg5
  z5 := Tryd.sizeOf5
  v5 := Tryd.zeroValue5
  t9 := Tryd.underlying9
  a9 := Tryd.isAgg9
  z9 := Tryd.sizeOf9
  v9 := Tryd.zeroValue9
  t21 := Tryd.underlying21
  a21 := Tryd.isAgg21
  z21 := Tryd.sizeOf21
  v21 := Tryd.zeroValue21
  t46 := Tryd.underlying59
  a46 := Tryd.isAgg59
  z46 := Tryd.sizeOf59
  v46 := Tryd.zeroValue59
  t116 := Tryd.underlying82
  a116 := Tryd.isAgg82
  z116 := Tryd.sizeOf82
  t117 := Tryd.underlying83
  a117 := Tryd.isAgg83
  z117 := Tryd.sizeOf83
  v117 := Tryd.zeroValue83
  t124 := Tryd.underlying87
  a124 := Tryd.isAgg87
  z124 := Tryd.sizeOf87
  v124 := Tryd.zeroValue87 }
open Go.RowKit Go.Lib in
/-- strings.ContainsAny ON ASCII BYTES. (LAID: no walk: one application.) -/
theorem Tryd.strings_ContainsAny (hv116 : ∀ w, (zeroValue 82).run Tryd.prog w = .ok (.agg (Array.replicate 256 (.bool false))) w) (s chars : ByteArray) (w : World) (hs : s.size < 4294967281) (hcs : chars.size < 4294967281) (has : ∀ (j : Nat) b, s.data.toList[j]? = some b → b.toNat < 128) (hac : ∀ (j : Nat) b, chars.data.toList[j]? = some b → b.toNat < 128) :
    Calls Tryd.prog 46 #[.string s, .string chars] w fun e w' => e = .returned (.bool (Lib.containsAny s.data.toList chars.data.toList)) ∧ Below w.heap.size w w' := Any.strings_ContainsAny Tryd.lays150 hv116 (by kernel_rfl) s chars w hs hcs has hac
open Go.RowKit Go.Lib in
theorem Tryd.strings_IndexAny_laid (s chars : ByteArray) (w : World) (hs : s.size < 4294967281) (hcs : chars.size < 4294967281) (has : ∀ (j : Nat) b, s.data.toList[j]? = some b → b.toNat < 128) (hac : ∀ (j : Nat) b, chars.data.toList[j]? = some b → b.toNat < 128) :
    Calls Tryd.prog 61 #[.string s, .string chars] w fun e w' => e = .returned (.int .i64 (Lib.indexAny s.data.toList chars.data.toList)) ∧ Below w.heap.size w w' := Any.strings_IndexAny_laid Tryd.lays153 (by kernel_rfl) s chars w hs hcs has hac
open Go.RowKit Go.Lib in
theorem Tryd.strings_ContainsAny_laid (s chars : ByteArray) (w : World) (hs : s.size < 4294967281) (hcs : chars.size < 4294967281) (has : ∀ (j : Nat) b, s.data.toList[j]? = some b → b.toNat < 128) (hac : ∀ (j : Nat) b, chars.data.toList[j]? = some b → b.toNat < 128) :
    Calls Tryd.prog 46 #[.string s, .string chars] w fun e w' => e = .returned (.bool (Lib.containsAny s.data.toList chars.data.toList)) ∧ Below w.heap.size w w' := Any.strings_ContainsAny_laid Tryd.lays150 (by kernel_rfl) s chars w hs hcs has hac
def Tryd.lays260_ren : Go.Shelf.Ren := ⟨fun | 260 => 87 | n => n, fun | 9 => 9 | 21 => 21 | 3 => 3 | 4 => 4 | 5 => 5 | 119 => 98 | 0 => 0 | 46 => 59 | 139 => 101 | 138 => 100 | n => n, fun | 3 => 1 | 4 => 2 | n => n⟩
theorem Tryd.lays260 : Go.Proofs.Lays.n260 Tryd.prog Tryd.lays260_ren := {
  mixed := by kernel_rfl
  f260 := Tryd.func87.trans (congrArg some (by kernel_rfl))
  t0 := Tryd.underlying0
  a0 := Tryd.isAgg0
  z0 := Tryd.sizeOf0
  v0 := Tryd.zeroValue0
  t3 := Tryd.underlying3
  a3 := Tryd.isAgg3
  z3 := Tryd.sizeOf3
  v3 := Tryd.zeroValue3
  t4 := Tryd.underlying4
  a4 := Tryd.isAgg4
  z4 := Tryd.sizeOf4
  v4 := Tryd.zeroValue4
  t5 := Tryd.underlying5
  a5 := Tryd.isAgg5
  z5 := Tryd.sizeOf5
  v5 := Tryd.zeroValue5
  t9 := Tryd.underlying9
  a9 := Tryd.isAgg9
  z9 := Tryd.sizeOf9
  v9 := Tryd.zeroValue9
  t21 := Tryd.underlying21
  a21 := Tryd.isAgg21
  z21 := Tryd.sizeOf21
  v21 := Tryd.zeroValue21
  t46 := Tryd.underlying59
  a46 := Tryd.isAgg59
  z46 := Tryd.sizeOf59
  v46 := Tryd.zeroValue59
  t119 := Tryd.underlying98
  a119 := Tryd.isAgg98
  z119 := Tryd.sizeOf98
  t138 := Tryd.underlying100
  a138 := Tryd.isAgg100
  z138 := Tryd.sizeOf100
  v138 := Tryd.zeroValue100
  t139 := Tryd.underlying101
  a139 := Tryd.isAgg101
  z139 := Tryd.sizeOf101
  v139 := Tryd.zeroValue101
  g3 := by kernel_rfl
  g4 := by kernel_rfl }
open Go.RowKit Go.Lib in
theorem Tryd.utf8_decodeRuneInStringSlow (s : ByteArray) (w : World) (hT : Lib.Utf8Tabs 1 2 w) :
    Calls Tryd.prog 87 #[.string s] w fun e w' => e = .returned (.tuple #[.int .i32 (Lib.decodeGo s).1, .int .i64 (Lib.decodeGo s).2]) ∧ Below w.heap.size w w' := Any.utf8_decodeRuneInStringSlow Tryd.lays260 s w hT
end Go.Proofs

namespace Go.Proofs.YtofcjkbgieenlaaDoor.Hand
open Go.RowKit Go.Shelf
attribute [local go_sem] Oper.semAt_some

/-- What the three boxes hold. -/
def SplitBoxes (c : UInt8) (B : Nat) (W : World) (s : ByteArray) : Prop :=
  W.heap[B]? = some (.cells #[.string s] 9) ∧ W.heap[B + 1]? = some (.cells #[.string ⟨#[c]⟩] 9) ∧ W.heap[B + 2]? = some (.cells #[.int .i64 0] 3)

theorem cell_of_heap {W : World} {k : Nat} {v : Value} {e : TypeId} (h : W.heap[k]? = some (.cells #[v] e)) : W.cell? ⟨k, 0, none⟩ = some v := by simp [World.cell?, h]
theorem free_of_heap {W : World} {k : Nat} {v : Value} {e : TypeId} (h : W.heap[k]? = some (.cells #[v] e)) : W.frozen? ⟨k, 0, none⟩ = false := by simp [World.frozen?, h]

set_option maxHeartbeats 1000000 in
set_option maxRecDepth 100000 in
theorem splitSeq_calls (s sep : ByteArray) (w : World) :
    Calls Tryd.prog 63 #[.string s, .string sep, .int .i64 0] w fun e w' => e = .returned (.func (.func 79) #[] #[.pointer (some ⟨w.heap.size + 1, 0, none⟩), .pointer (some ⟨w.heap.size, 0, none⟩), .pointer (some ⟨w.heap.size + 2, 0, none⟩)]) ∧
      w' = ((w.alloc (.cells #[.string s] 9)).alloc (.cells #[.string sep] 9)).alloc (.cells #[.int .i64 0] 3) := by
  go_enter Tryd.func63, Tryd.ntmps63
  go_wp2
  go_ret
  exact ⟨rfl, rfl⟩

set_option maxHeartbeats 1000000 in
set_option maxRecDepth 100000 in
theorem SplitSeq_calls (s sep : ByteArray) (w : World) :
    Calls Tryd.prog 48 #[.string s, .string sep] w fun e w' => e = .returned (.func (.func 79) #[] #[.pointer (some ⟨w.heap.size + 1, 0, none⟩), .pointer (some ⟨w.heap.size, 0, none⟩), .pointer (some ⟨w.heap.size + 2, 0, none⟩)]) ∧
      w' = ((w.alloc (.cells #[.string s] 9)).alloc (.cells #[.string sep] 9)).alloc (.cells #[.int .i64 0] 3) := by
  go_enter Tryd.func48, Tryd.ntmps48
  go_wp2_with (go_at_call 63; refine (splitSeq_calls _ _ _).mono ?_; rintro e w' ⟨rfl, rfl⟩)
  go_ret
  exact ⟨rfl, rfl⟩

theorem BoxStep.set {B m k : Nat} {v : Value} {W : World} (hB : B ≤ k) (hk : k < B + m) : BoxStep B m W (W.setCell ⟨k, 0, none⟩ v) := by
  refine ⟨rfl, rfl, rfl, by simp [World.setCell], fun j hj => ?_⟩
  simp only [World.setCell]
  rw [Array.getElem?_modify]
  rw [if_neg (by omega)]

theorem SplitBoxes.set {c : UInt8} {B : Nat} {W : World} {s : ByteArray} (h : SplitBoxes c B W s) (t : ByteArray) : SplitBoxes c B (W.setCell ⟨B, 0, none⟩ (.string t)) t := by
  obtain ⟨h0, h1, h2⟩ := h
  refine ⟨?_, ?_, ?_⟩
  · simp only [World.setCell, Array.getElem?_modify]
    simp [h0]
  · simp only [World.setCell, Array.getElem?_modify]
    simp [h1]
  · simp only [World.setCell, Array.getElem?_modify]
    simp [h2]
theorem SplitBoxes.kept {c : UInt8} {B : Nat} {W W' : World} {s : ByteArray} (h : SplitBoxes c B W s) (k : BoxKept B 3 W W') : SplitBoxes c B W' s :=
  ⟨(k _ (by omega) (by omega)).trans h.1, (k _ (by omega) (by omega)).trans h.2.1, (k _ (by omega) (by omega)).trans h.2.2⟩

/-- How long the text in the box still is. -/
def boxLen (B : Nat) (W : World) : Nat := match W.cell? ⟨B, 0, none⟩ with | some (.string s) => s.size + 1 | _ => 0
theorem boxLen_of {c : UInt8} {B : Nat} {W : World} {s : ByteArray} (h : SplitBoxes c B W s) : boxLen B W = s.size + 1 := by
  unfold boxLen
  rw [cell_of_heap h.1]

set_option maxHeartbeats 4000000 in
set_option maxRecDepth 100000 in
theorem splitSeq1_in (n l B : Nat) (hn : 1 ≤ n) (c : UInt8) (s0 : ByteArray) (hs0 : s0.size ≤ 140737488351232) (xs : List ByteArray) (hxs : xs = splitS c s0) (J Jx : List ByteArray → World → Prop)
    (hJ : ∀ s A A', J s A → BoxStep B 3 A A' → J s A')
    (hY : ∀ pre x W, J pre W → pre ++ [x] <+: xs → YieldAt Fence.wide (n - 1) Tryd.prog l #[.string x] W fun e W' =>
      (e = .returned (.bool true) ∧ J (pre ++ [x]) W' ∧ BoxKept B 3 W W') ∨ (e = .returned (.bool false) ∧ Jx (pre ++ [x]) W'))
    (W : World) (hb : SplitBoxes c B W s0) (h0 : J [] W) :
    CallsIn Fence.wide n Tryd.prog 79 #[.func (.yield l) #[] #[], .pointer (some ⟨B + 1, 0, none⟩), .pointer (some ⟨B, 0, none⟩), .pointer (some ⟨B + 2, 0, none⟩)] W fun e W' => (∃ v, e = .returned v) ∧
      (J xs W' ∨ (∃ pre, pre <+: xs ∧ Jx pre W')) := by
  refine callsIn_of_wp Tryd.func79 rfl trivial ?_ rfl
  simp only [Tryd.ntmps79, List.size_toArray, List.length_cons, List.length_nil, Nat.reduceAdd, Nat.reduceSub, Array.replicate_succ, Array.replicate_zero, List.push_toArray, List.append_toArray, List.nil_append, List.cons_append]
  have c1 := cell_of_heap hb.2.1
  gi_wp2
  gi_loopw [7, 8] (fun i f wr => ∃ (pre : List ByteArray) (s : ByteArray), xs = pre ++ splitS c s ∧ s.size ≤ s0.size ∧ SplitBoxes c B wr s ∧ J pre wr)
    (fun _ _ wr => boxLen B wr)
  case atStart => exact ⟨[], s0, hxs, Nat.le_refl _, hb, h0⟩
  case round =>
    clear c1
    obtain ⟨pre, s, hx, hsz, hbr, hJr⟩ := hrel
    have c0 := cell_of_heap hbr.1
    have c1 := cell_of_heap hbr.2.1
    have c2 := cell_of_heap hbr.2.2
    have f0 := free_of_heap hbr.1
    have hge := Lib.indexByte_ge s.data.toList c
    by_cases hneg : Lib.indexByte s.data.toList c = -1
    · -- no such byte any more: the last part
      have hsp := splitS_none hneg
      rw [hsp] at hx
      have Hx := Lib.hid hx
      clear hx hsp
      obtain ⟨fn, tmps, assign, body, hy, hR⟩ := hY pre s wr hJr (by rw [Hx.out]; exact List.prefix_refl _)
      have hlt : decide (Lib.indexByte s.data.toList c < 0) = true := by rw [hneg]; rfl
      have Hn := Lib.hid hneg
      clear hneg
      gi_wp2_with (refine ⟨trivial, ?_⟩; (with_reducible refine (callsIn_wide.2 (Tryd.strings_Index_one s c _)).mono ?_); rintro e w' ⟨rfl, rfl⟩)
      gi_wp2
      refine hR.mono ?_
      rintro e W3 (⟨rfl, hJ3, hk3⟩ | ⟨rfl, hJx3⟩)
      · gi_wp2
        go_end0
        exact ⟨⟨_, rfl⟩, .inl (by rw [Hx.out]; exact hJ3)⟩
      · gi_wp2
        go_end0
        exact ⟨⟨_, rfl⟩, .inr ⟨_, by rw [Hx.out]; exact List.prefix_refl _, hJx3⟩⟩
    · -- one part more
      obtain ⟨i, hi⟩ : ∃ i : Nat, Lib.indexByte s.data.toList c = i := ⟨(Lib.indexByte s.data.toList c).toNat, by omega⟩
      have hlen := indexByte_lt hi
      have hsp := splitS_some hi
      rw [hsp] at hx
      have Hx := Lib.hid hx
      have hle : i < s.size := by show i < s.data.size; rw [← Array.length_toList]; exact hlen
      clear hx hsp hneg hge hlen
      obtain ⟨fn, tmps, assign, body, hy, hR⟩ := hY pre (s.extract 0 i) wr hJr (by rw [Hx.out]; exact ⟨splitS c (s.extract (i + 1) s.size), by rw [List.append_assoc]; rfl⟩)
      have Hi := Lib.hid hi
      clear hi
      have hlt : decide ((i : Int) < 0) = false := by simp
      gi_wp2_with (refine ⟨trivial, ?_⟩; (with_reducible refine (callsIn_wide.2 (Tryd.strings_Index_one s c _)).mono ?_); rintro e w' ⟨rfl, rfl⟩; rw [Hi.out])
      refine hR.mono ?_
      rintro e W3 (⟨rfl, hJ3, hk3⟩ | ⟨rfl, hJx3⟩)
      · have hb3 := hbr.kept hk3
        have c0' := cell_of_heap hb3.1
        have c1' := cell_of_heap hb3.2.1
        have f0' := free_of_heap hb3.1
        clear c0 c1 c2 f0
        gi_wp2
        go_roundw
        case rel => exact ⟨pre ++ [s.extract 0 i], s.extract (i + 1) s.size, by rw [Hx.out, List.append_assoc]; rfl, by simp; omega, hb3.set _, hJ _ _ _ hJ3 (BoxStep.set (by omega) (by omega))⟩
        case measure => rw [boxLen_of (hb3.set _), boxLen_of hbr]; simp; omega
      · gi_wp2
        refine bodyPost_ret (results_none rfl _ _ _) rfl ?_
        exact ⟨⟨_, rfl⟩, .inr ⟨_, by rw [Hx.out]; exact ⟨splitS c (s.extract (i + 1) s.size), by rw [List.append_assoc]; rfl⟩, hJx3⟩⟩

theorem splitSeq1_seq (n B : Nat) (hn : 1 ≤ n) (c : UInt8) (s : ByteArray) (hs : s.size ≤ 140737488351232) (w : World) (hb : SplitBoxes c B w s) :
    BoxSeq Fence.wide n Tryd.prog 79 #[.pointer (some ⟨B + 1, 0, none⟩), .pointer (some ⟨B, 0, none⟩), .pointer (some ⟨B + 2, 0, none⟩)] (fun x : ByteArray => #[Value.string x]) B 3 (splitS c s) w :=
  fun l J Jx W hW _ hJ _ hY h0 => splitSeq1_in n l B hn c s hs _ rfl J Jx hJ hY W (hb.kept hW) h0
end Go.Proofs.YtofcjkbgieenlaaDoor.Hand

set_option linter.unusedVariables false
set_option linter.unusedSimpArgs false
namespace Go.Proofs.YtofcjkbgieenlaaDoor.PM
open Go Go.Proofs Go.Shelf Go.RowKit
set_option maxHeartbeats 1000000 in
set_option maxRecDepth 100000 in
theorem copyCheck_used (b : Nat) (w : World) (h0 : w.cell? ⟨b, 0, none⟩ = some (.pointer (some ⟨b, 0, none⟩))) :
    Calls Tryd.prog 84 #[.pointer (some ⟨b, 0, none⟩)] w fun e w' => e = .returned (.tuple #[]) ∧ w' = w := by
  have X := Tryd.Builder_Extra_169
  obtain ⟨j, hj, _⟩ := Option.map_eq_some_iff.1 X.sizeBuilder
  have mixed : (Tryd.prog).follows .mixedOrders = true := by kernel_rfl
  have t72 := Tryd.underlying75; have a72 := Tryd.isAgg75; have z72 := Tryd.sizeOf75; have v72 := Tryd.zeroValue75; have u72 := run_underlying Tryd.underlying75
  have t70 := Tryd.underlying73; have a70 := Tryd.isAgg73; have z70 := Tryd.sizeOf73; have v70 := Tryd.zeroValue73; have u70 := run_underlying Tryd.underlying73
  have t4 := Tryd.underlying4; have a4 := Tryd.isAgg4; have z4 := Tryd.sizeOf4; have v4 := Tryd.zeroValue4; have u4 := run_underlying Tryd.underlying4
  have t164 := Tryd.underlying96; have a164 := Tryd.isAgg96; have z164 := Tryd.sizeOf96; have v164 := Tryd.zeroValue96; have u164 := run_underlying Tryd.underlying96
  go_enter Tryd.func84, Tryd.ntmps84
  go_wp2
  rw [Lib.run_neq_ptr_same w _ Tryd.underlying73 hj]
  go_wp2
  go_end0
  exact ⟨rfl, rfl⟩
set_option maxHeartbeats 1000000 in
set_option maxRecDepth 100000 in
theorem copyCheck_fresh (b : Nat) (w : World) (h0 : w.cell? ⟨b, 0, none⟩ = some (.pointer none)) (hsh : w.shape? b = some (75, 2)) (hfz : w.frozen? ⟨b, 0, none⟩ = false) :
    Calls Tryd.prog 84 #[.pointer (some ⟨b, 0, none⟩)] w fun e w' => e = .returned (.tuple #[]) ∧ w' = w.setCell ⟨b, 0, none⟩ (.pointer (some ⟨b, 0, none⟩)) := by
  have X := Tryd.Builder_Extra_169
  obtain ⟨j, hj, hjs⟩ := Option.map_eq_some_iff.1 X.sizeBuilder
  have mixed : (Tryd.prog).follows .mixedOrders = true := by kernel_rfl
  have t72 := Tryd.underlying75; have a72 := Tryd.isAgg75; have z72 := Tryd.sizeOf75; have v72 := Tryd.zeroValue75; have u72 := run_underlying Tryd.underlying75
  have t70 := Tryd.underlying73; have a70 := Tryd.isAgg73; have z70 := Tryd.sizeOf73; have v70 := Tryd.zeroValue73; have u70 := run_underlying Tryd.underlying73
  have t4 := Tryd.underlying4; have a4 := Tryd.isAgg4; have z4 := Tryd.sizeOf4; have v4 := Tryd.zeroValue4; have u4 := run_underlying Tryd.underlying4
  have t164 := Tryd.underlying96; have a164 := Tryd.isAgg96; have z164 := Tryd.sizeOf96; have v164 := Tryd.zeroValue96; have u164 := run_underlying Tryd.underlying96
  go_enter Tryd.func84, Tryd.ntmps84
  go_wp2
  rw [Lib.run_to_unsafe w ⟨b, 0, none⟩ Tryd.underlying73 Tryd.underlying96 hj (by rw [hjs]; decide) hsh (Nat.zero_lt_succ 1)]
  simp only [Result.andThen]
  rw [Oper.upon_value]
  go_wp2
  rw [run_callFunc_extern Tryd.func88 (by kernel_rfl) (by kernel_rfl) (by kernel_rfl) (e := Extern.AbiNoEscape.same) (by kernel_rfl)]
  rw [Lib.run_noEscape]
  simp only [Result.andThen]
  rw [Oper.upon_value]
  go_wp2
  rw [Lib.run_from_unsafe w ⟨b, 0, none⟩ Tryd.underlying96 Tryd.underlying73 hj hsh X.liesBuilder]
  simp only [Result.andThen]
  rw [Oper.upon_value]
  go_wp2
  go_end0
  exact ⟨rfl, rfl⟩
theorem copyCheck_ok (B b : Nat) (bs : List Value) (w : World) (h : Lib.IsBuilder 75 5 B b bs w) :
    Calls Tryd.prog 84 #[.pointer (some ⟨b, 0, none⟩)] w fun e w' => e = .returned (.tuple #[]) ∧ (Lib.BuilderAt 75 5 B b (.pointer (some ⟨b, 0, none⟩)) bs w' ∧ Below B w w') := by
  rcases h with h | h
  · refine (copyCheck_fresh b w h.cell0 h.shape h.frozen0).mono ?_
    rintro e w' ⟨rfl, rfl⟩
    exact ⟨rfl, h.used _, (Below.refl B w).setCell (p := ⟨b, 0, none⟩) h.1 _⟩
  · refine (copyCheck_used b w h.cell0).mono ?_
    rintro e w' ⟨rfl, rfl⟩
    exact ⟨rfl, h, Below.refl B _⟩
set_option maxHeartbeats 2000000 in
set_option maxRecDepth 100000 in
theorem writeByte_ok (B b : Nat) (bs : List Value) (c : Int) (w : World) (h : Lib.IsBuilder 75 5 B b bs w) (hlen : bs.length + 1 ≤ 140737488355328) (hBw : B ≤ w.heap.size) :
    Calls Tryd.prog 68 #[.pointer (some ⟨b, 0, none⟩), .int .u8 c] w fun e w' => e = .returned .nilIface ∧ (Lib.BuilderAt 75 5 B b (.pointer (some ⟨b, 0, none⟩)) (bs ++ [.int .u8 c]) w' ∧ Below B w w') := by
  have X := Tryd.Builder_Extra_169
  obtain ⟨j, hj, hjs⟩ := Option.map_eq_some_iff.1 X.sizeBuilder
  have mixed : (Tryd.prog).follows .mixedOrders = true := by kernel_rfl
  have t72 := Tryd.underlying75; have a72 := Tryd.isAgg75; have z72 := Tryd.sizeOf75; have v72 := Tryd.zeroValue75; have u72 := run_underlying Tryd.underlying75
  have t70 := Tryd.underlying73; have a70 := Tryd.isAgg73; have z70 := Tryd.sizeOf73; have v70 := Tryd.zeroValue73; have u70 := run_underlying Tryd.underlying73
  have t4 := Tryd.underlying4; have a4 := Tryd.isAgg4; have z4 := Tryd.sizeOf4; have v4 := Tryd.zeroValue4; have u4 := run_underlying Tryd.underlying4
  have t164 := Tryd.underlying96; have a164 := Tryd.isAgg96; have z164 := Tryd.sizeOf96; have v164 := Tryd.zeroValue96; have u164 := run_underlying Tryd.underlying96
  obtain ⟨i0, hi, hz0, hz1, hz2⟩ := info_parts X.infoByte
  have t5 := Tryd.underlying5; have a5 := Tryd.isAgg5; have z5 := Tryd.sizeOf5; have v5 := Tryd.zeroValue5; have u5 := run_underlying Tryd.underlying5
  have t37 := Tryd.underlying42; have a37 := Tryd.isAgg42; have z37 := Tryd.sizeOf42; have v37 := Tryd.zeroValue42; have u37 := run_underlying Tryd.underlying42
  have e240 : ∀ args w, (callFunc 84 args).run Tryd.prog w = .ok (.enter 84 args) w := enters_of Tryd.func84 (by kernel_rfl) rfl
  go_enter Tryd.func68, Tryd.ntmps68
  go_wp2_with (go_at_fn 84; refine (copyCheck_ok B b bs _ h).mono ?_)
  rintro e w1 ⟨rfl, h1, hb1⟩
  obtain ⟨hB, v, hbk, hown, hne⟩ := h1
  have c0 : w1.cell? ⟨b, 0, none⟩ = some (.pointer (some ⟨b, 0, none⟩)) := by rw [Lib.cell_of_heap hbk]; rfl
  have c1 : w1.cell? ⟨b, 1, none⟩ = some v := by rw [Lib.cell_of_heap hbk]; rfl
  go_wp2_with (at_builtin; refine wpList_append_own _ rfl _ _ 42 rfl B 5 i0 (.int .u8 0) 1 1 Tryd.underlying42 hi hz0 hz1 hz2 rfl (by decide) _ _ _ rfl (hown.alloc _) ⟨w1.heap.size, 0, none⟩ 1 1 [.int .u8 c] rfl rfl ?c1 ?c2 ?c3 ?c4 ?c5 ?_)
  case c1 =>
    intro j u hj
    match j, hj with
    | 0, hj => simp at hj; subst hj; simp [Addr.add]
  case c2 => intro u hu; simp at hu; subst hu; rfl
  case c3 => unfold maxLen; omega
  case c4 => omega
  case c5 => have := hb1.size; simp; omega
  intro v' w2 hown' hgrow _
  have hlt : b < w1.heap.size := by
    rcases Nat.lt_or_ge b w1.heap.size with h' | h'
    · exact h'
    · simp [Array.getElem?_eq_none h'] at hbk
  have hb2 : w2.heap[b]? = some (.cells #[.pointer (some ⟨b, 0, none⟩), v] 75 (0, 0)) := by
    rw [hgrow.block b (by simp; omega) (fun e => hne e.symm), Lib.alloc_old w1 _ b hlt]
    exact hbk
  have d0 : w2.cell? ⟨b, 0, none⟩ = some (.pointer (some ⟨b, 0, none⟩)) := by rw [Lib.cell_of_heap hb2]; rfl
  have d1 : w2.cell? ⟨b, 1, none⟩ = some v := by rw [Lib.cell_of_heap hb2]; rfl
  have f1 : w2.frozen? ⟨b, 1, none⟩ = false := Lib.frozen_of_heap hb2 1
  obtain ⟨g, cap, rfl⟩ : ∃ g cap, v' = .slice (some ⟨g, 0, none⟩) (bs.length + 1) cap := by
    rcases hown'.2 with ⟨_, h0⟩ | ⟨g, cap, cur, hv, _⟩
    · omega
    · exact ⟨g, cap, hv⟩
  go_wp2
  go_ret
  refine ⟨rfl, ?_, ?_⟩
  · exact Lib.BuilderAt.put (T := 75) (e := 5) hB hb2 (bs' := bs ++ [.int .u8 c]) (by simpa using hown') X.neB5
  · exact ((hb1.alloc (by have := hb1.size; omega) _).grown hgrow (by have := hb1.size; simp; omega) (fun k hk => (hown.lt k hk).1)).setCell (p := ⟨b, 1, none⟩) hB _
end Go.Proofs.YtofcjkbgieenlaaDoor.PM

namespace Go.Proofs.YtofcjkbgieenlaaDoor.PM
open Go

/-- What is not known. -/
def junk : Value := .chan none

abbrev Fr := List (Nat × Value)

def lk : Fr → Nat → Value
  | [], _ => junk
  | (t, v) :: r, u => bif Nat.beq t u then v else lk r u

/-- How the elements of a row are told. -/
structure Codec where
  α : Type
  enc : α → List Value
  get : α → Nat → Value
  set : α → Nat → Value → α
  okv : Nat → Value → Bool
  dec : List Value → α
  okl : List Value → Bool
  flat : Bool
  map : (Value → Value) → α → α
  h_map : ∀ (f : Value → Value), (∀ b, f (.bool b) = .bool b) → (∀ k n, f (.int k n) = .int k n) → (∀ s, f (.string s) = .string s) → ∀ x, enc (map f x) = (enc x).map f
  h_get : ∀ x j v, (enc x)[j]? = some v → get x j = v
  h_set : ∀ x j v, okv j v = true → enc (set x j v) = (enc x).set j v
  h_dec : ∀ l, okl l = true → enc (dec l) = l
  h_flat : flat = true → ∀ x v, v ∈ enc x → ∃ u, v = u ∧ (match u with | .bool _ | .int _ _ | .string _ => true | _ => false) = true

abbrev raw : Codec where
  α := List Value
  enc := id
  get x j := x.getD j junk
  set x j v := x.set j v
  okv _ _ := true
  dec l := l
  okl _ := true
  flat := false
  map f x := x.map f
  h_map _ _ _ _ _ := rfl
  h_get x j v h := by simp only [id] at h; simp [List.getD, h]
  h_set _ _ _ _ := rfl
  h_dec _ _ := rfl
  h_flat h := by cases h

abbrev strC : Codec where
  α := ByteArray
  enc x := [.string x]
  get x _ := .string x
  set x _ v := match v with | .string s => s | _ => x
  okv j v := match j, v with | 0, .string _ => true | _, _ => false
  dec l := match l with | [.string s] => s | _ => ⟨#[]⟩
  okl l := match l with | [.string _] => true | _ => false
  flat := true
  map _ x := x
  h_map f _ _ h x := by simp [h]
  h_get x j v h := by
    cases j with
    | zero => simpa using h
    | succ j => simp at h
  h_set x j v h := by
    split at h
    · rfl
    · cases h
  h_dec l h := by
    split at h
    · rfl
    · cases h
  h_flat _ x v h := by
    simp only [List.mem_singleton] at h
    exact ⟨_, h, rfl⟩

abbrev intC (k : IntKind) : Codec where
  α := Int
  enc x := [.int k x]
  get x _ := .int k x
  set x _ v := match v with | .int _ s => s | _ => x
  okv j v := match j, v with | 0, .int k' _ => decide (k' = k) | _, _ => false
  dec l := match l with | [.int _ s] => s | _ => 0
  okl l := match l with | [.int k' _] => decide (k' = k) | _ => false
  flat := true
  map _ x := x
  h_map f _ h _ x := by simp [h]
  h_get x j v h := by
    cases j with
    | zero => simpa using h
    | succ j => simp at h
  h_set x j v h := by
    split at h
    · have := of_decide_eq_true h
      subst this
      rfl
    · cases h
  h_dec l h := by
    split at h
    · have := of_decide_eq_true h
      subst this
      rfl
    · cases h
  h_flat _ x v h := by
    simp only [List.mem_singleton] at h
    exact ⟨_, h, rfl⟩

def allI (k : IntKind) : List Value → Bool
  | [] => true
  | .int k' _ :: r => decide (k' = k) && allI k r
  | _ => false
def decI : List Value → List Int
  | .int _ n :: r => n :: decI r
  | _ => []
theorem enc_decI {k : IntKind} : ∀ {l : List Value}, allI k l = true → (decI l).map (Value.int k) = l
  | [], _ => rfl
  | v :: l, h => by
    cases v <;> simp only [allI, Bool.and_eq_true, decide_eq_true_eq] at h <;> first | (cases h; done) | skip
    obtain ⟨h1, h2⟩ := h
    subst h1
    simp only [decI, List.map_cons, enc_decI h2]

abbrev arrC (k : IntKind) : Codec where
  α := List Int
  enc x := x.map (Value.int k)
  get x j := .int k (x.getD j 0)
  set x j v := match v with | .int _ s => x.set j s | _ => x
  okv _ v := match v with | .int k' _ => decide (k' = k) | _ => false
  dec l := decI l
  okl l := allI k l
  flat := true
  map _ x := x
  h_map f _ h _ x := by simp [h]
  h_get x j v h := by
    rw [List.getElem?_map] at h
    cases hx : x[j]? with
    | none => rw [hx] at h; cases h
    | some n => rw [hx] at h; simp [List.getD, hx] at h ⊢; exact h
  h_set x j v h := by
    split at h
    · have := of_decide_eq_true h
      subst this
      simp [List.map_set]
    · cases h
  h_dec l h := enc_decI h
  h_flat _ x v h := by
    obtain ⟨n, _, rfl⟩ := List.mem_map.1 h
    exact ⟨_, rfl, rfl⟩

def allStr : List Value → Bool
  | [] => true
  | .string _ :: r => allStr r
  | _ => false
def decStr : List Value → List ByteArray
  | .string s :: r => s :: decStr r
  | _ => []
theorem enc_decStr : ∀ {l : List Value}, allStr l = true → (decStr l).map Value.string = l
  | [], _ => rfl
  | v :: l, h => by
    cases v <;> simp only [allStr] at h <;> first | (cases h; done) | skip
    simp only [decStr, List.map_cons, enc_decStr h]

abbrev strsC : Codec where
  α := List ByteArray
  enc x := x.map Value.string
  get x j := .string (x.getD j ⟨#[]⟩)
  set x j v := match v with | .string s => x.set j s | _ => x
  okv _ v := match v with | .string _ => true | _ => false
  dec l := decStr l
  okl l := allStr l
  flat := true
  map _ x := x
  h_map f _ _ h x := by simp [h]
  h_get x j v h := by
    rw [List.getElem?_map] at h
    cases hx : x[j]? with
    | none => rw [hx] at h; cases h
    | some n => rw [hx] at h; simp [List.getD, hx] at h ⊢; exact h
  h_set x j v h := by
    split at h
    · simp [List.map_set]
    · cases h
  h_dec l h := enc_decStr h
  h_flat _ x v h := by
    obtain ⟨n, _, rfl⟩ := List.mem_map.1 h
    exact ⟨_, rfl, rfl⟩

/-- May it be written, is it read alone, was it what another row came of. -/
inductive VMode where
  | own | ro | stale

inductive VB : Type 1 where
  | row (C : Codec) (esz : Nat) (l : List C.α) (m : VMode)
  | iter (s : ByteArray) (pos : Nat)
  | dead

abbrev VH := List VB

def hget : VH → Nat → VB
  | [], _ => .dead
  | b :: _, 0 => b
  | _ :: r, n + 1 => hget r n

def hset : VH → Nat → VB → VH
  | [], _, _ => []
  | _ :: r, 0, b => b :: r
  | a :: r, n + 1, b => a :: hset r n b

def VB.fade : VB → VB
  | .row _ _ _ .stale => .dead
  | b => b

/-- A test that is not known, or is. -/
def bcase (b : Bool) (X Y : Prop) : Prop := match b with | true => X | false => Y
def need (b : Bool) (X : Prop) : Prop := match b with | true => X | false => False

/-- No address in it. -/
def plainV : Value → Bool
  | .bool _ | .int _ _ | .string _ | .pointer none | .slice none 0 0 | .nilFunc | .nilIface | .map none => true
  | _ => false
def plainL : List Value → Bool
  | [] => true
  | v :: r => plainV v && plainL r
def constV (v : Value) : Value :=
  match v with
  | .agg cs => bif plainL cs.toList then v else junk
  | v => bif plainV v then v else junk

def ev (fr : Fr) : Operand → Value
  | .tmp t => lk fr t
  | .const v => constV v
  | .global _ => junk
  | .func f => .func (.func f) #[] #[]

/-- The byte of a string. -/
def bt (s : ByteArray) (i : Int) : Int := ((s.data.toList.getD i.toNat 0).toNat : Int)

def inb (i : Int) (n : Nat) : Bool := decide (0 ≤ i) && decide (i < (n : Int))

def binI (op : BinOp) (k : IntKind) (a b : Int) : Option (Bool × Value) :=
  match op with
  | .add => some (true, .int k (k.wrap (a + b)))
  | .sub => some (true, .int k (k.wrap (a - b)))
  | .mul => some (true, .int k (k.wrap (a * b)))
  | .quo => some (!(decide (b = 0)), .int k (k.wrap (a.tdiv b)))
  | .rem => some (!(decide (b = 0)), .int k (a.tmod b))
  | .and => some (true, .int k (k.wrap ((BitVec.ofInt k.bits a &&& BitVec.ofInt k.bits b).toNat : Int)))
  | .or => some (true, .int k (k.wrap ((BitVec.ofInt k.bits a ||| BitVec.ofInt k.bits b).toNat : Int)))
  | .xor => some (true, .int k (k.wrap ((BitVec.ofInt k.bits a ^^^ BitVec.ofInt k.bits b).toNat : Int)))
  | .andNot => some (true, .int k (k.wrap ((BitVec.ofInt k.bits a &&& ~~~ BitVec.ofInt k.bits b).toNat : Int)))
  | .eql => some (true, .bool (a == b))
  | .neq => some (true, .bool (a != b))
  | .lss => some (true, .bool (decide (a < b)))
  | .leq => some (true, .bool (decide (a ≤ b)))
  | .gtr => some (true, .bool (decide (a > b)))
  | .geq => some (true, .bool (decide (a ≥ b)))
  | _ => none

def shI (op : BinOp) (k : IntKind) (a b : Int) : Option (Bool × Value) :=
  match op with
  | .shl => some (decide (0 ≤ b), .int k (k.wrap (a * 2 ^ (min b.toNat k.bits))))
  | .shr => some (decide (0 ≤ b), .int k (a.fdiv (2 ^ (min b.toNat k.bits))))
  | _ => none

def binS (op : BinOp) (x y : ByteArray) : Option (Bool × Value) :=
  match op with
  | .add => some (decide (x.size + y.size < 9223372036854775808), .string (x ++ y))
  | .eql => some (true, .bool (x.toList == y.toList))
  | .neq => some (true, .bool (!(x.toList == y.toList)))
  | .lss => some (true, .bool (Op.bytesLess x.toList y.toList))
  | .leq => some (true, .bool (Op.bytesLess x.toList y.toList || x.toList == y.toList))
  | .gtr => some (true, .bool (!(Op.bytesLess x.toList y.toList || x.toList == y.toList)))
  | .geq => some (true, .bool (!(Op.bytesLess x.toList y.toList)))
  | _ => none

/-- A value's cells. -/
def cellsOf : Value → Option (List Value)
  | .agg cs => some cs.toList
  | .tuple _ | .chan _ => none
  | v => some [v]

/-- A value that one cell may hold. -/
def cellV : Value → Bool
  | .agg _ | .tuple _ | .chan _ => false
  | _ => true

def cellsV : List Value → Bool
  | [] => true
  | v :: r => cellV v && cellsV r

def splice (l : List Value) (off : Nat) (cs : List Value) : List Value := l.take off ++ (cs ++ l.drop (off + cs.length))

variable (P : Program)

def szOf (t : TypeId) : Option Nat := match P.info? t with | some i => some i.size | none => none

def aggT (t : TypeId) : Option Bool := match P.underlying t with
  | some (.struct _) | some (.array _ _) => some true
  | some _ => some false
  | none => none

def pickI : List Value → Nat → Int
  | .int _ x :: _, 0 => x
  | _ :: r, n + 1 => pickI r n
  | _, _ => 0
def allS : List Value → Bool
  | [] => true
  | .string _ :: r => allS r
  | _ => false
def pickS : List Value → Nat → ByteArray
  | .string x :: _, 0 => x
  | _ :: r, n + 1 => pickS r n
  | _, _ => ⟨#[]⟩

def cutL (l : List Value) (off n : Nat) : List Value := (l.drop off).take n

/-- A part of a struct's or an array's cells. -/
def partV (t : TypeId) (cs : List Value) (off : Nat) : Option Value :=
  match szOf P t, aggT P t with
  | some n, some true => some (.agg ⟨cutL cs off n⟩)
  | some _, some false => match cs.drop off with
      | v :: _ => some v
      | [] => none
  | _, _ => none

def eqFs (rec : TypeId → Value → Value → Option Bool) (xs ys : List Value) : List Field → Option Bool
  | [] => some true
  | f :: r => bif f.name == "_" then none else
    match partV P f.type xs f.offset, partV P f.type ys f.offset with
    | some a, some b => match rec f.type a b, eqFs rec xs ys r with
      | some c, some d => some (c && d)
      | _, _ => none
    | _, _ => none

def eqAs (rec : TypeId → Value → Value → Option Bool) (e n : Nat) (xs ys : List Value) : List Nat → Option Bool
  | [] => some true
  | i :: r => match partV P e xs (i * n), partV P e ys (i * n) with
    | some a, some b => match rec e a b, eqAs rec e n xs ys r with
      | some c, some d => some (c && d)
      | _, _ => none
    | _, _ => none

/-- Structs, arrays, and what they are made of, against each other. -/
def eqT : Nat → TypeId → Value → Value → Option Bool
  | 0, _, _, _ => none
  | d + 1, t, x, y => match P.underlying t, x, y with
    | some .bool, .bool a, .bool b => some (a == b)
    | some (.int _), .int k a, .int k' b => bif decide (k = k') then some (a == b) else none
    | some .string, .string a, .string b => some (a.toList == b.toList)
    | some (.struct fs), .agg xs, .agg ys => bif P.stoodInHeld t then none else eqFs P (eqT d) xs.toList ys.toList fs.toList
    | some (.array n e), .agg xs, .agg ys => match szOf P e with
      | some m => eqAs P (eqT d) e m xs.toList ys.toList (List.range n)
      | none => none
    | _, _, _ => none

def pickV (c : Bool) (a b : Value) : Value :=
  match a, b with
  | .bool x, .bool y => .bool (bif c then x else y)
  | .int k x, .int k' y => bif decide (k = k') then .int k (bif c then x else y) else junk
  | .string x, .string y => .string (bif c then x else y)
  | a, b => bif c then a else b

def gets (C : Codec) (x : C.α) : Nat → Nat → List Value
  | _, 0 => []
  | j, n + 1 => C.get x j :: gets C x (j + 1) n

def nth (C : Codec) (l : List C.α) (i : Nat) : C.α := l.getD i (C.dec [])

def zeroCells (t : TypeId) : Option (List Value) :=
  match P.info? t with
  | some i => match i.zero with
    | some z => bif plainL z.cells.toList then some z.cells.toList else none
    | none => none
  | none => none

def placesOf : List Field → Option (List (Nat × Nat))
  | [] => some []
  | f :: r => match szOf P f.type, placesOf r with
    | some n, some l => some ((f.offset, n) :: l)
    | _, _ => none

def fillV (place : Nat → Option (Nat × Nat)) (ρ : Operand → Value) : List Value → List (Nat × Operand) → Option (List Value)
  | l, [] => some l
  | l, (i, x) :: r => match place i, cellsOf (ρ x) with
    | some (off, n), some cs => bif Nat.beq cs.length n && Nat.ble (off + n) l.length then fillV place ρ (splice l off cs) r else none
    | _, _ => none

/-- The bytes of a row. -/
def gatherB (C : Codec) (l : List C.α) (i : Nat) : Nat → Option (List Int)
  | 0 => some []
  | n + 1 => match C.get (nth C l i) 0, gatherB C l (i + 1) n with
    | .int .u8 x, some r => some (x :: r)
    | _, _ => none

def addN (j x : Nat) : Nat := match j with | 0 => x | j => j + x
def mulN (x m : Nat) : Nat := match m with | 1 => x | m => x * m
/-- What an operation that leaves memory as it is yields: on which condition, and what. -/
def opV (ρ : Operand → Value) (H : VH) : Op → Option (Bool × Value)
  | .move x | .assign x => some (true, ρ x)
  | .pick c a b => match ρ c with
    | .bool t => some (true, pickV t (ρ a) (ρ b))
    | _ => none
  | .binOp op t x y _ => match op, ρ x, ρ y with
    | .shl, .int k a, .int _ b => shI .shl k a b
    | .shr, .int k a, .int _ b => shI .shr k a b
    | op, .int k a, .int k' b => bif decide (k = k') then binI op k a b else none
    | op, .string a, .string b => binS op a b
    | .eql, .bool a, .bool b => match P.underlying t with | some .bool => some (true, .bool (a == b)) | _ => none
    | .neq, .bool a, .bool b => match P.underlying t with | some .bool => some (true, .bool (!(a == b))) | _ => none
    | .eql, .agg a, .agg b => bif P.eqGuardType P.depth t then none else (match eqT P 6 t (.agg a) (.agg b) with | some r => some (true, .bool r) | none => none)
    | .neq, .agg a, .agg b => bif P.eqGuardType P.depth t then none else (match eqT P 6 t (.agg a) (.agg b) with | some r => some (true, .bool (!r)) | none => none)
    | _, _, _ => none
  | .unOp .not _ x => match ρ x with
    | .bool b => some (true, .bool (!b))
    | _ => none
  | .unOp .neg _ x => match ρ x with
    | .int k n => some (true, .int k (k.wrap (0 - n)))
    | _ => none
  | .convert src dst x => match P.underlying src, P.underlying dst, ρ x with
    | some (.int _), some (.int k), .int _ n => some (true, .int k (k.wrap n))
    | some .string, some .string, .string s => some (true, .string s)
    | some (.int _), some .string, .int _ n => some (true, .string (Utf8.encode n))
    | some (.slice e), some .string, .slice (some ⟨b, i0, none⟩) n _ => match P.underlying e, hget H b with
      | some (.int .u8), .row C 1 l _ => match gatherB C l i0 n with
        | some xs => some (Nat.ble (i0 + n) l.length, .string ⟨⟨xs.map fun x => UInt8.ofNat x.toNat⟩⟩)
        | none => none
      | _, _ => none
    | _, _, _ => none
  | .load t a => match ρ a with
    | .pointer (some ⟨b, i, some j⟩) => match hget H b, szOf P t, aggT P t with
      | .row C esz l _, some n, some true => some (decide (i < l.length) && Nat.ble (j + n) esz, .agg ⟨gets C (nth C l i) j n⟩)
      | .row C esz l _, some _, some false => some (decide (i < l.length) && Nat.ble (j + 1) esz, C.get (nth C l i) j)
      | _, _, _ => none
    | _ => none
  | .nilCheck x => match ρ x with
    | .pointer (some a) => some (true, .pointer (some a))
    | _ => none
  | .slice t x lo hi none => match P.underlying t, ρ x with
    | some .string, .string s =>
      match (match lo with | some o => ρ o | none => .int .i64 0), (match hi with | some o => ρ o | none => .int .i64 s.size) with
      | .int _ l, .int _ h => some (decide (0 ≤ l) && (decide (l ≤ h) && decide (h ≤ (s.size : Int))), .string (s.extract l.toNat h.toNat))
      | _, _ => none
    | some (.slice e), .slice (some ⟨b, i0, none⟩) n _ =>
      match hget H b, szOf P e, (match lo with | some o => ρ o | none => .int .i64 0), (match hi with | some o => ρ o | none => .int .i64 n) with
      | .row _ esz _ _, some m, .int _ l, .int _ h => bif Nat.beq esz m then
          some (decide (0 ≤ l) && (decide (l ≤ h) && decide (h ≤ (n : Int))), .slice (some ⟨b, i0 + l.toNat, none⟩) (h.toNat - l.toNat) (h.toNat - l.toNat)) else none
      | _, _, _, _ => none
    | _, _ => none
  | .fieldAddr s x f => match P.underlying s, ρ x with
    | some (.struct fs), .pointer (some ⟨b, i, some j⟩) => match fs[f]? with
      | some fd => match szOf P fd.type with
        | some (_ + 1) => some (true, .pointer (some ⟨b, i, some (j + fd.offset)⟩))
        | _ => none
      | none => none
    | _, _ => none
  | .field t x f => match P.underlying t, ρ x with
    | some (.struct fs), .agg cs => match fs[f]? with
      | some fd => match partV P fd.type cs.toList fd.offset with | some v => some (true, v) | none => none
      | none => none
    | _, _ => none
  | .indexAddr t x ix => match P.underlying t, ρ x, ρ ix with
    | some (.slice e), .slice (some ⟨b, i0, none⟩) n _, .int _ i => match hget H b, szOf P e with
      | .row _ esz _ _, some m => bif Nat.beq esz m then some (inb i n, .pointer (some ⟨b, i0 + i.toNat, some 0⟩)) else none
      | _, _ => none
    | some (.array len e), .pointer (some ⟨b, i0, some j⟩), .int _ i => match szOf P e with
      | some m => some (inb i len, .pointer (some ⟨b, i0, some (addN j (mulN i.toNat m))⟩))
      | none => none
    | _, _, _ => none
  | .index t x ix => match P.underlying t, ρ x, ρ ix with
    | some .string, .string s, .int _ i => some (inb i s.size, .int .u8 (bt s i))
    | some (.array len e), .agg cs, .int _ i => match szOf P e, P.underlying e with
      | some 1, some (.int k) => bif allI k cs.toList && Nat.beq cs.toList.length len then some (inb i len, .int k (pickI cs.toList i.toNat)) else none
      | some 1, some .string => bif allS cs.toList && Nat.beq cs.toList.length len then some (inb i len, .string (pickS cs.toList i.toNat)) else none
      | _, _ => none
    | _, _, _ => none
  | .build t parts => match zeroCells P t, P.underlying t with
    | some zs, some (.struct fs) => match placesOf P fs.toList with
      | some pl => match fillV (fun i => pl[i]?) ρ zs parts.toList with
        | some l => some (true, .agg ⟨l⟩)
        | none => none
      | none => none
    | some zs, some (.array _ e) => match szOf P e with
      | some n => match fillV (fun i => some (i * n, n)) ρ zs parts.toList with
        | some l => some (true, .agg ⟨l⟩)
        | none => none
      | none => none
    | _, _ => none
  | .extract x ix => match ρ x with
    | .tuple vs => match vs.toList.drop ix with
      | v :: _ => some (true, v)
      | [] => none
    | _ => none
  | .call { callee := .builtin .len, args, argTypes } => match args.toList, argTypes.toList with
    | [x], [t] => match P.underlying t, ρ x with
      | some .string, .string s => some (true, .int .i64 s.size)
      | some (.slice _), .slice _ n _ => some (true, .int .i64 n)
      | _, _ => none
    | _, _ => none
  | _ => none

inductive Ex where
  | normal
  | exit (id : Nat)
  | ret

abbrev Kont := Ex → Fr → VH → Prop
/-- What a function is known to do, for its callers. -/
abbrev Spec := List Value → VH → (Value → VH → Prop) → Prop

def put (d : Option Tmp) (v : Value) (fr : Fr) : Fr := match d with | some t => (t, v) :: fr | none => fr

def setFrom (C : Codec) (x : C.α) (j : Nat) : List Value → Option C.α
  | [] => some x
  | v :: r => bif C.okv j v && cellV v then setFrom C (C.set x j v) (j + 1) r else none

/-- An element, of which some cells are other ones. -/
def setAll (C : Codec) (esz : Nat) (x : C.α) (j : Nat) (cs : List Value) : Option C.α :=
  bif (Nat.beq cs.length esz && Nat.beq j 0) && (C.okl cs && cellsV cs) then some (C.dec cs)
  else bif Nat.ble 4 cs.length && (C.okl (splice (C.enc x) j cs) && cellsV cs) then some (C.dec (splice (C.enc x) j cs)) else setFrom C x j cs

def storeG (t : TypeId) (a v : Value) (H : VH) : Option (Bool × VH) :=
  match a with
  | .pointer (some ⟨b, i, some j⟩) => match hget H b, szOf P t with
    | .row C esz l .own, some n =>
      match cellsOf v with
      | some cs => bif Nat.beq cs.length n then
          match setAll C esz (nth C l i) j cs with
          | some x => some (decide (i < l.length) && Nat.ble (j + n) esz, (hset H b (.row C esz (l.set i x) .own)).map VB.fade)
          | none => none
        else none
      | none => none
    | _, _ => none
  | _ => none

/-- Is it an array of numbers? -/
def arrOf (t : TypeId) : Option IntKind := match P.underlying t with
  | some (.array _ e) => match P.underlying e with
    | some (.int k) => some k
    | _ => none
  | _ => none
/-- Is it an array of texts? -/
def strArr (t : TypeId) : Option Unit := match P.underlying t with
  | some (.array _ e) => match P.underlying e with
    | some .string => some ()
    | _ => none
  | _ => none
/-- A variable of its own. -/
def newP (t : TypeId) (zs : List Value) (H : VH) (K : Value → VH → Prop) : Prop := match arrOf P t with
  | some k => need (allI k zs) (K (.pointer (some ⟨H.length, 0, some 0⟩)) (H ++ [.row (arrC k) zs.length [decI zs] .own]))
  | none => match strArr P t with
    | some _ => need (allStr zs) (K (.pointer (some ⟨H.length, 0, some 0⟩)) (H ++ [.row strsC zs.length [decStr zs] .own]))
    | none => K (.pointer (some ⟨H.length, 0, some 0⟩)) (H ++ [.row raw zs.length [zs] .own])

/-- How rows of a type are told. -/
def codecOf (e : TypeId) : Codec := match P.underlying e with
  | some .string => strC
  | some (.int k) => intC k
  | _ => match arrOf P e with
    | some k => arrC k
    | none => raw

def okAll (C C2 : Codec) : List C2.α → Bool
  | [] => true
  | y :: r => (C.okl (C2.enc y) && cellsV (C2.enc y)) && okAll C C2 r

def asC (C C2 : Codec) : List C2.α → List C.α
  | [] => []
  | y :: r => C.dec (C2.enc y) :: asC C C2 r

def infoB (t : TypeId) : Option Nat := match P.info? t with | some i => some i.bytes | none => none

/-- 'append' of a slice that lies in a row to one. -/
def appendP (t : TypeId) (s : Value) (X : VB) (j0 m : Nat) (H : VH) (K : Value → VH → Prop) : Prop :=
  match P.underlying t with
  | some (.slice e) => match szOf P e, infoB P e, zeroCells P e, X with
    | some (n1 + 1), some (by1 + 1), some zs, .row C2 esz2 l2 _ =>
      need ((Nat.ble (j0 + m) l2.length && Nat.beq esz2 (n1 + 1)) && Nat.beq zs.length (n1 + 1)) (match s with
        | .slice none 0 0 => bcase (Nat.beq m 0) (K (.slice none 0 0) H)
          (need (Nat.ble (m * (by1 + 1)) 140737488355328 && okAll (codecOf P e) C2 ((l2.drop j0).take m))
            (K (.slice (some ⟨H.length, 0, none⟩) m m) (H ++ [.row (codecOf P e) (n1 + 1) (asC (codecOf P e) C2 ((l2.drop j0).take m)) .own])))
        | .slice (some ⟨b, i0, none⟩) n _ => match hget H b with
          | .row C esz l .own =>
            need ((Nat.beq esz (n1 + 1) && Nat.beq (i0 + n) l.length) && (Nat.ble ((n + m) * (by1 + 1)) 140737488355328 && okAll C C2 ((l2.drop j0).take m)))
              (K (.slice (some ⟨H.length, 0, none⟩) (n + m) (n + m)) (hset H b (.row C esz l .stale) ++ [.row C esz (l.drop i0 ++ asC C C2 ((l2.drop j0).take m)) .own]))
          | _ => False
        | _ => False)
    | _, _, _, _ => False
  | _ => False

/-- The cells of parts, one behind the other. -/
def partsV (ρ : Operand → Value) (n : Nat) : Nat → List (Nat × Operand) → Option (List (List Value))
  | _, [] => some []
  | k, (i, x) :: r => match cellsOf (ρ x), partsV ρ n (k + 1) r with
    | some cs, some l => bif Nat.beq i k && Nat.beq cs.length n then some (cs :: l) else none
    | _, _ => none

/-- Operations that may write memory, and calls. -/
def opE (call : FuncId → Spec) (ρ : Operand → Value) (H : VH) (K : Value → VH → Prop) : Op → Prop
  | .alloc t => match zeroCells P t with
    | some zs => newP P t zs H K
    | none => False
  | .box t x => match cellsOf (ρ x) with
    | some zs => newP P t zs H K
    | none => False
  | .store t a x => match storeG P t (ρ a) (ρ x) H with
    | some (c, H') => need c (K undef H')
    | none => False
  | .range t x => match P.underlying t, ρ x with
    | some .string, .string s => K (.pointer (some ⟨H.length, 0, some 0⟩)) (H ++ [.iter s 0])
    | _, _ => False
  | .next it true => match ρ it with
    | .pointer (some ⟨b, 0, some 0⟩) => match hget H b with
      | .iter s pos => bcase (decide (pos < s.size))
        (K (.tuple ⟨[.bool true, .int .i64 pos, .int .i32 (Utf8.decode s pos).1]⟩) (hset H b (.iter s (pos + (Utf8.decode s pos).2))))
        (K (.tuple ⟨[.bool false]⟩) H)
      | _ => False
    | _ => False
  | .buildSlice t len parts => match P.underlying t with
    | some (.slice e) => match szOf P e, zeroCells P e with
      | some (n1 + 1), some zs => match partsV ρ (n1 + 1) 0 parts.toList with
        | some cl => need ((Nat.beq cl.length len && Nat.ble (len * (n1 + 1)) 16777216) && (Nat.beq zs.length (n1 + 1) && okAll (codecOf P e) raw cl))
            (K (.slice (some ⟨H.length, 0, none⟩) len len) (H ++ [.row (codecOf P e) (n1 + 1) (asC (codecOf P e) raw cl) .own]))
        | none => False
      | _, _ => False
    | _ => False
  | .call { callee := .builtin .append, args, argTypes } => match args.toList, argTypes.toList with
    | [s, x], [t, t'] => bif Nat.beq t t' then (match ρ x with
        | .slice (some ⟨b2, j0, none⟩) m _ => appendP P t (ρ s) (hget H b2) j0 m H K
        | _ => False) else False
    | _, _ => False
  | .call { callee := .value f, args, argTypes := _ } => match ρ f with
    | .func (.func id) first captured => call id (first.toList ++ (args.toList.map ρ ++ captured.toList)) H K
    | _ => False
  | o => match opV P ρ H o with
    | some (c, v) => need c (K v H)
    | none => False

def dstOf (ops : List Oper) (j : Nat) : Option Tmp := match ops.drop j with | o :: _ => o.dst | [] => none

def opsP (call : FuncId → Spec) (ops : List Oper) (K : Fr → VH → Prop) : List Oper → Fr → VH → Prop
  | [], fr, H => K fr H
  | o :: rest, fr, H =>
    match o.guard with
    | none => opE P call (ev fr) H (fun v H => opsP call ops K rest (put o.dst v fr) H) o.op
    | some (j, want) => match dstOf ops j with
      | none => False
      | some t => match lk fr t with
        | .bool b => bcase b
            (bif want then opE P call (ev ((t, .bool true) :: fr)) H (fun v H => opsP call ops K rest (put o.dst v ((t, .bool true) :: fr)) H) o.op
              else opsP call ops K rest (put o.dst undef ((t, .bool true) :: fr)) H)
            (bif want then opsP call ops K rest (put o.dst undef ((t, .bool false) :: fr)) H
              else opE P call (ev ((t, .bool false) :: fr)) H (fun v H => opsP call ops K rest (put o.dst v ((t, .bool false) :: fr)) H) o.op)
        | .tuple ⟨[]⟩ => opsP call ops K rest (put o.dst undef fr) H
        | _ => False

/-- What is kept behind a region: the hints are no more than that. -/
def keepF : Option (List Nat) → Fr → Fr
  | none, fr => fr
  | some ts, fr => ts.map fun t => (t, lk fr t)

def hintOf : List (Nat × List Nat) → Nat → Option (List Nat)
  | [], _ => none
  | (i, l) :: r, j => bif Nat.beq i j then some l else hintOf r j

def silent : Op → Bool
  | .move _ | .assign _ | .pick .. | .binOp .. | .unOp .. | .convert .. | .load .. | .nilCheck _ | .slice .. | .fieldAddr .. | .field .. | .indexAddr .. | .index .. | .extract .. | .build .. => true
  | .call { callee := .builtin .len, .. } => true
  | _ => false

def headLen : List Oper → Nat
  | [] => 0
  | o :: r => bif silent o.op then headLen r + 1 else 0

def drawOk (ops : Array Oper) : Bool :=
  bif Nat.beq (headLen ops.toList) ops.toList.length then Region.lexB .any ops else Region.lexTailB .any ops (headLen ops.toList)

/-! ### An order for the operations of a region whose order is drawn -/
def known0 : Value → Bool
  | .bool _ | .int _ _ | .string _ | .pointer none | .pointer (some ⟨_, _, some _⟩) | .slice none 0 0 | .nilFunc | .nilIface | .map none => true
  | _ => false
def known0L : List Value → Bool
  | [] => true
  | v :: r => known0 v && known0L r
def known1 (v : Value) : Bool :=
  match v with
  | .agg ⟨l⟩ => known0L l
  | v => known0 v
def known1L : List Value → Bool
  | [] => true
  | v :: r => known1 v && known1L r
/-- A value that is told wholly. -/
def knownV (v : Value) : Bool :=
  match v with
  | .tuple ⟨l⟩ => known1L l
  | v => known1 v

def movesOp : Op → Bool
  | .move _ | .assign _ | .pick .. | .extract .. => true
  | _ => false
/-- An operation that leaves the rows that there are as they are. -/
def tameOp : Op → Bool
  | .alloc _ | .box .. | .buildSlice .. | .range .. => true
  | .call { callee := .value _, .. } => true
  | o => silent o
/-- The numbers of the operations that may write. -/
def writersL : Nat → List Oper → List Nat
  | _, [] => []
  | k, o :: r => bif tameOp o.op then writersL (k + 1) r else k :: writersL (k + 1) r

def stepD (call : FuncId → Spec) (kind : Nat) (o : Oper) (k : Fr → VH → Prop) (fr : Fr) (H : VH) : Prop :=
  match kind with
  | 1 => opE P call (ev fr) H (fun v H => k (put o.dst v fr) H) o.op
  | n => match opV P (ev fr) (match n with | 0 => [] | _ => H) o.op with
    | some (c, v) => need (c && (movesOp o.op || knownV v)) (k (put o.dst v fr) H)
    | none => False

/-- Operations in an order of ours: below 1000 what looks at no memory and may be taken first, 1000 and on the only one that may come up, 2000 and on what looks at memory and may be taken first. -/
def opsD (call : FuncId → Spec) (ops : List Oper) (K : Fr → VH → Prop) : List Nat → Fr → VH → Prop
  | [], fr, H => K fr H
  | i :: rest, fr, H => match ops.drop (i % 1000) with
    | [] => False
    | o :: _ => match o.guard with
      | none => stepD P call (i / 1000) o (opsD call ops K rest) fr H
      | some (j, want) => match dstOf ops j with
        | none => False
        | some t => match lk fr t with
          | .bool b => bcase b
              (bif want then stepD P call (i / 1000) o (opsD call ops K rest) ((t, .bool true) :: fr) H
                else opsD call ops K rest (put o.dst undef ((t, .bool true) :: fr)) H)
              (bif want then opsD call ops K rest (put o.dst undef ((t, .bool false) :: fr)) H
                else stepD P call (i / 1000) o (opsD call ops K rest) ((t, .bool false) :: fr) H)
          | .tuple ⟨[]⟩ => opsD call ops K rest (put o.dst undef fr) H
          | _ => False

/-- One operation. -/
def oneD (call : FuncId → Spec) (ops : List Oper) (kind i : Nat) (k : Fr → VH → Prop) (fr : Fr) (H : VH) : Prop := match ops.drop i with
  | [] => False
  | o :: _ => match o.guard with
    | none => stepD P call kind o k fr H
    | some (j, want) => match dstOf ops j with
      | none => False
      | some t => match lk fr t with
        | .bool b => bcase b
            (bif want then stepD P call kind o k ((t, .bool true) :: fr) H
              else k (put o.dst undef ((t, .bool true) :: fr)) H)
            (bif want then k (put o.dst undef ((t, .bool false) :: fr)) H
              else stepD P call kind o k ((t, .bool false) :: fr) H)
        | .tuple ⟨[]⟩ => k (put o.dst undef fr) H
        | _ => False
def forkT (f : Nat → List Nat → Prop) : Nat → List Nat → Prop
  | 0, _ => True
  | m + 1, i :: L :: r => f i (r.take L) ∧ forkT f m (r.drop L)
  | _, _ => False
/-- Operations in all the orders that may come up: a tree; 6000 and on: so many may come up, each with how long its part of the tree is. -/
def opsT (call : FuncId → Spec) (ops : List Oper) (K : Fr → VH → Prop) : Nat → List Nat → Fr → VH → Prop
  | _, [], fr, H => K fr H
  | 0, _, _, _ => False
  | n + 1, c :: rest, fr, H => match c / 1000 with
    | 6 => forkT (fun i l => oneD P call ops 1 i (opsT call ops K n l) fr H) (c % 1000) rest
    | 1 => oneD P call ops 1 (c % 1000) (opsT call ops K n rest) fr H
    | _ => oneD P call ops 0 (c % 1000) (opsT call ops K n rest) fr H
def forkOk (f : Nat → List Nat → Bool) : Nat → List Nat → List Nat → Bool
  | 0, [], _ => true
  | m + 1, j :: js, i :: L :: r => Nat.beq i j && (f i (r.take L) && forkOk f m js (r.drop L))
  | _, _, _ => false
def treeOk (ops : Array Oper) : Nat → List Nat → Array Bool → Bool
  | _, [], listed => (Region.ready .any ops listed).isEmpty
  | 0, _, _ => false
  | n + 1, c :: rest, listed => match c / 1000 with
    | 6 => !Nat.beq (c % 1000) 0 && forkOk (fun i l => treeOk ops n l (listed.setIfInBounds i true)) (c % 1000) (Region.ready .any ops listed) rest
    | 1 => (match Region.ready .any ops listed with | [j] => Nat.beq j (c % 1000) | _ => false) && treeOk ops n rest (listed.setIfInBounds (c % 1000) true)
    | 0 => ((Region.ready .any ops listed).contains (c % 1000) && Region.free .any ops listed (c % 1000)) && treeOk ops n rest (listed.setIfInBounds (c % 1000) true)
    | _ => false

/-- Does an operation wait for another one, be it through others? -/
def waitsB (ops : Array Oper) : Nat → Nat → Nat → Bool
  | 0, _, _ => false
  | n + 1, s, i => match ops[s]? with
    | some o => o.after.toList.any fun e => Region.binds .any e && (Nat.beq e.on i || waitsB ops n e.on i)
    | none => false

def schedFrom (ops : Array Oper) (wrs : List Nat) : List Nat → Array Bool → Bool
  | [], listed => (Region.ready .any ops listed).isEmpty
  | i :: r, listed => (match i / 1000 with
      | 1 => (match Region.ready .any ops listed with | [j] => Nat.beq j (i % 1000) | _ => false)
      | 0 => !(wrs.contains (i % 1000)) && ((Region.ready .any ops listed).contains (i % 1000) && Region.free .any ops listed (i % 1000))
      | _ => (!(wrs.contains (i % 1000)) && wrs.all fun s => waitsB ops 12 s (i % 1000)) && ((Region.ready .any ops listed).contains (i % 1000) && Region.free .any ops listed (i % 1000)))
      && schedFrom ops wrs r (listed.setIfInBounds (i % 1000) true)
def schedOk (ops : Array Oper) (l : List Nat) : Bool := Region.noSelect ops && (Nat.beq l.length ops.size && schedFrom ops (writersL 0 ops.toList) l (Array.replicate ops.size false))

def regionP (call : FuncId → Spec) (sched : Option (List Nat)) (ops : Array Oper) (draw : Bool) (K : Fr → VH → Prop) (fr : Fr) (H : VH) : Prop :=
  bif draw then match sched with
    | some l => bif Nat.beq (l.headD 0) 7000 then need (Region.noSelect ops && treeOk ops ops.size l.tail (Array.replicate ops.size false)) (opsT P call ops.toList K ops.size l.tail fr H)
      else need (schedOk ops l) (opsD P call ops.toList K l fr H)
    | none => need (drawOk ops) (opsP P call ops.toList K ops.toList fr H)
  else opsP P call ops.toList K ops.toList fr H

def litF (c : Operand) (b : Bool) (fr : Fr) : Fr := match c with | .tmp t => (t, .bool b) :: fr | _ => fr

/-! ### Other numbers for blocks -/
def ren0 (f : Nat → Option Nat) (v : Value) : Value :=
  match v with
  | .pointer (some ⟨b, i, some j⟩) => match f b with | some c => .pointer (some ⟨c, i, some j⟩) | none => junk
  | .slice (some ⟨b, i, none⟩) n c => match f b with | some d => .slice (some ⟨d, i, none⟩) n c | none => junk
  | .func fn ⟨[]⟩ ⟨[]⟩ => .func fn ⟨[]⟩ ⟨[]⟩
  | v => bif plainV v then v else junk
def ren1 (f : Nat → Option Nat) (v : Value) : Value :=
  match v with
  | .agg ⟨l⟩ => .agg ⟨l.map (ren0 f)⟩
  | .func fn ⟨l⟩ ⟨m⟩ => .func fn ⟨l.map (ren0 f)⟩ ⟨m.map (ren0 f)⟩
  | .iface t v => .iface t (ren0 f v)
  | .tuple ⟨[]⟩ => .tuple ⟨[]⟩
  | v => ren0 f v
def ren2 (f : Nat → Option Nat) (v : Value) : Value :=
  match v with
  | .tuple ⟨l⟩ => .tuple ⟨l.map (ren1 f)⟩
  | v => ren1 f v
def renB (f : Nat → Option Nat) : VB → VB
  | .row C e l m => .row C e (bif C.flat then l else l.map (C.map (ren1 f))) m
  | b => b

def ids0 : Value → List Nat
  | .pointer (some ⟨b, _, _⟩) => [b]
  | .slice (some ⟨b, _, _⟩) _ _ => [b]
  | _ => []
def idsL (f : Value → List Nat) : List Value → List Nat
  | [] => []
  | v :: r => f v ++ idsL f r
def ids1 : Value → List Nat
  | .agg ⟨l⟩ => idsL ids0 l
  | .func _ ⟨l⟩ ⟨m⟩ => idsL ids0 l ++ idsL ids0 m
  | .iface _ v => ids0 v
  | v => ids0 v
def ids2 : Value → List Nat
  | .tuple ⟨l⟩ => idsL ids1 l
  | v => ids1 v
def idsB : VB → List Nat
  | .row C _ l _ => bif C.flat then [] else idsL ids1 (encs C l)
  | _ => []
where encs (C : Codec) : List C.α → List Value
  | [] => []
  | x :: r => C.enc x ++ encs C r
def idsF : Fr → List Nat
  | [] => []
  | (_, v) :: r => ids2 v ++ idsF r

def hasN : List Nat → Nat → Bool
  | [], _ => false
  | a :: r, b => bif Nat.beq a b then true else hasN r b
def idxN : List Nat → Nat → Option Nat
  | [], _ => none
  | a :: r, b => bif Nat.beq a b then some 0 else match idxN r b with | some i => some (i + 1) | none => none

def reach (H : VH) : Nat → List Nat → List Nat → List Nat
  | 0, _, acc => acc
  | _ + 1, [], acc => acc
  | n + 1, b :: t, acc => bif hasN acc b || !(Nat.blt b H.length) then reach H n t acc else reach H n (t ++ idsB (hget H b)) (acc ++ [b])

/-- The blocks at the front that are read alone. -/
def leadRo : VH → Nat
  | .row _ _ _ .ro :: r => leadRo r + 1
  | .dead :: r => leadRo r + 1
  | _ => 0

/-- The blocks that may be come to, in an order that goes by the frame. -/
def kept (fr : Fr) (H : VH) : List Nat := reach H 100 (idsF fr) (List.range (leadRo H))

def canonV (fr : Fr) (H : VH) (v : Value) : Value := match H with
  | [] => v
  | H => ren2 (idxN (kept fr H)) v
def canonFr (fr : Fr) (H : VH) : Fr := match H with
  | [] => fr
  | H => fr.map fun (t, v) => (t, ren2 (idxN (kept fr H)) v)
def canonH (fr : Fr) (H : VH) : VH := match H with
  | [] => []
  | H => (kept fr H).map fun b => renB (idxN (kept fr H)) (hget H b)

/-- The first region of a text: its name among the contracts of parts. -/
def firstReg : Code → Nat
  | .region id _ _ => id
  | .seq a _ => firstReg a
  | .block _ c => firstReg c
  | .loop c => firstReg c
  | .scope c => firstReg c
  | .cond _ a _ => firstReg a
  | _ => 0

/-- What a part of a text is known to do. -/
abbrev LSpec := Fr → VH → Kont → Prop

/-- Contracts of loops, and of what stands behind a place. -/
structure Tab where
  loops : Nat → Option LSpec
  joins : Nat → Option LSpec

def noTab : Tab := ⟨fun _ => none, fun _ => none⟩
/-- No contracts: loops are gone through, round by round. -/
def unrollTab : Tab := ⟨fun _ => none, fun _ => none⟩

def runS (call : FuncId → Spec) (hint : List (Nat × List Nat)) (tb : Tab) (prev : Code → Fr → VH → Kont → Prop) : Code → Fr → VH → Kont → Prop
  | .skip, fr, H, K => K .normal fr H
  | .label _, fr, H, K => K .normal fr H
  | .region id ops draw, fr, H, K => regionP P call (hintOf hint (2000 + id)) ops draw (fun fr H => K .normal (keepF (hintOf hint id) fr) H) fr H
  | .seq a b, fr, H, K => runS call hint tb prev a fr H (fun e fr H => match e with
    | .normal => match tb.joins (firstReg b) with
      | some sp => sp (canonFr (keepF (hintOf hint (3000 + firstReg b)) fr) H) (canonH (keepF (hintOf hint (3000 + firstReg b)) fr) H) K
      | none => runS call hint tb prev b fr H K
    | e => K e fr H)
  | .cond c a b, fr, H, K => match ev fr c with
    | .bool t => bcase t (runS call hint tb prev a (litF c true fr) H K) (runS call hint tb prev b (litF c false fr) H K)
    | _ => False
  | .block id c, fr, H, K => runS call hint tb prev c fr H (fun e fr H => match e with
    | .exit id' => bif Nat.beq id' id then K .normal fr H else K (.exit id') fr H
    | e => K e fr H)
  | .loop c, fr, H, K => match tb.loops (firstReg c) with
    | some sp => sp (canonFr (keepF (hintOf hint (4000 + firstReg c)) fr) H) (canonH (keepF (hintOf hint (4000 + firstReg c)) fr) H) K
    | none => runS call hint tb prev c (canonFr (keepF (hintOf hint (4000 + firstReg c)) fr) H) (canonH (keepF (hintOf hint (4000 + firstReg c)) fr) H) (fun e fr H => match e with
      | .normal => prev (.loop c) fr H K
      | e => K e fr H)
  | .scope c, fr, H, K => runS call hint tb prev c fr H K
  | .exit id, fr, H, K => K (.exit id) (keepF (hintOf hint (1000 + id)) fr) H
  | .ret, fr, H, K => K .ret (keepF (hintOf hint 999) fr) H
  | _, _, _, _ => False

/-- One round of a loop, and on. -/
def run (call : FuncId → Spec) (hint : List (Nat × List Nat)) (tb : Tab) : Nat → Code → Fr → VH → Kont → Prop
  | 0 => fun _ _ _ _ => False
  | n + 1 => runS P call hint tb (run call hint tb n)

/-- A loop's rounds, whatever contract it may have. -/
def rnds (call : FuncId → Spec) (hint : List (Nat × List Nat)) (tb : Tab) : Nat → Code → Fr → VH → Kont → Prop
  | 0, _, _, _, _ => False
  | n + 1, c, fr, H, K => runS P call hint tb (run P call hint tb n) c fr H (fun e fr H => match e with
    | .normal => rnds call hint tb n c (canonFr (keepF (hintOf hint (4000 + firstReg c)) fr) H) (canonH (keepF (hintOf hint (4000 + firstReg c)) fr) H) K
    | e => K e fr H)

def argsF : Nat → List Value → Fr
  | _, [] => []
  | i, v :: r => (i, v) :: argsF (i + 1) r

def resF (fr : Fr) (H : VH) : List ResultVar → Option (Bool × List Value)
  | [] => some (true, [])
  | .tmp t :: r => match resF fr H r with | some (c, l) => some (c, lk fr t :: l) | none => none
  | .cell a t :: r => match lk fr a, opV P (ev fr) H (.load t (.tmp a)), resF fr H r with
    | .pointer (some _), some (c1, v), some (c, l) => some (c1 && c, v :: l)
    | _, _, _ => none

def oneOr : List Value → Value
  | [v] => v
  | l => .tuple l.toArray

/-- What a call of a function comes to. -/
def runF (call : FuncId → Spec) (hint : List (Nat × List Nat)) (tb : Tab) (n : Nat) (fn : Func) (args : List Value) (H : VH) (K : Value → VH → Prop) : Prop :=
  match fn.body with
  | some c => run P call hint tb n c (argsF 0 args) H (fun e fr H => match e with
    | .exit _ => False
    | _ => match resF P fr H fn.results.toList with
      | some (c, l) => need c (K (canonV [(0, oneOr l)] H (oneOr l)) (canonH [(0, oneOr l)] H))
      | none => False)
  | none => False

/-- The loop whose first region is this one. -/
def loopAt (k : Nat) : Code → Option Code
  | .seq a b => match loopAt k a with | some c => some c | none => loopAt k b
  | .cond _ a b => match loopAt k a with | some c => some c | none => loopAt k b
  | .block _ c => loopAt k c
  | .scope c => loopAt k c
  | .loop c => bif Nat.beq (firstReg c) k then some c else loopAt k c
  | _ => none
def joinAt (k : Nat) : Code → Option Code
  | .seq a b => match joinAt k a with
    | some c => some c
    | none => bif Nat.beq (firstReg b) k then some b else joinAt k b
  | .cond _ a b => match joinAt k a with | some c => some c | none => joinAt k b
  | .block _ c => joinAt k c
  | .scope c => joinAt k c
  | .loop c => joinAt k c
  | _ => none
def orSkip : Option Code → Code
  | some c => c
  | none => .skip
def bodyOf (f : Func) : Code := orSkip f.body
def lp (f : Func) (k : Nat) : Code := orSkip (loopAt k (bodyOf f))
def jn (f : Func) (k : Nat) : Code := orSkip (joinAt k (bodyOf f))

end Go.Proofs.YtofcjkbgieenlaaDoor.PM

namespace Go.Proofs.YtofcjkbgieenlaaDoor.PM
def hints : Nat → List (Nat × List Nat)
  | 2 => [(0, []), (999, [])]
  | 3 => [(0, [0]), (1, [0, 9]), (2, [2]), (3, [0, 3, 4]), (4, [3, 4, 5, 6]), (5, [2]), (999, [2]), (2005, [2000, 2001, 2, 3, 4, 5, 6, 7, 8, 2009, 2011, 1010, 1012, 13, 14, 15, 2016, 2018, 1017, 1019, 20, 21, 22, 1023, 24, 25]), (3003, [0])]
  | 4 => [(0, [1]), (1, [1, 18]), (2, [2]), (3, [2]), (999, [2]), (2003, [2000, 2002, 1001, 1003, 4, 5, 2006, 2008, 1007, 1009, 10, 11, 12, 2013, 2015, 1014, 1016, 17, 18, 19, 1020, 21, 22]), (3003, [1])]
  | 5 => [(0, [2, 3]), (1, [2, 3, 5]), (2, [2, 3, 5, 6]), (3, [2, 3, 5, 6, 7]), (4, [2, 3, 5, 6, 7, 8]), (5, [2, 3, 6, 7, 8, 9]), (6, [2, 6, 7, 8, 9, 10]), (7, [2, 6, 8, 11]), (8, [2, 6, 8, 11, 12]), (9, [2, 6, 8, 11, 12, 64]), (10, [2, 6, 8, 11, 12]), (11, [2, 6, 8, 11, 12, 13, 14]), (12, [2, 6, 8, 11, 12, 13, 14, 15, 16]), (13, [2, 6, 8, 11, 12, 102]), (14, [4]), (15, [8]), (16, [8, 118]), (17, [8]), (18, [4]), (999, [4]), (1000, [2, 6, 8]), (1001, [2, 6, 8, 11, 12]), (2007, [0, 1, 2, 3, 4, 5, 6, 7, 8, 9, 10, 11, 12, 13, 14, 2015, 16, 17, 2018, 19, 20, 1021, 1022]), (2013, [2000, 2001, 2, 3, 4, 5, 6, 7, 8, 2009, 2011, 1010, 1012, 13, 14, 15, 2016, 2018, 1017, 1019, 20, 21]), (2015, [7000, 0, 5, 9, 6003, 1, 116, 2, 3, 6003, 4, 43, 6002, 6, 9, 7, 8, 1010, 11, 1012, 13, 1014, 15, 1016, 10, 29, 11, 6002, 6, 7, 7, 8, 1012, 13, 1014, 15, 1016, 12, 16, 13, 6002, 6, 5, 7, 8, 1014, 15, 1016, 14, 5, 1006, 7, 8, 15, 1016, 6, 21, 7, 8, 6002, 4, 7, 1010, 11, 1012, 13, 1014, 15, 1016, 10, 7, 1004, 11, 1012, 13, 1014, 15, 1016, 10, 43, 6002, 4, 29, 11, 6002, 6, 7, 7, 8, 1012, 13, 1014, 15, 1016, 12, 16, 13, 6002, 6, 5, 7, 8, 1014, 15, 1016, 14, 5, 1006, 7, 8, 15, 1016, 6, 9, 7, 8, 1004, 11, 1012, 13, 1014, 15, 1016, 6, 38, 7, 8, 6002, 1, 21, 2, 3, 6002, 4, 7, 1010, 11, 1012, 13, 1014, 15, 1016, 10, 7, 1004, 11, 1012, 13, 1014, 15, 1016, 10, 10, 1001, 2, 3, 1004, 11, 1012, 13, 1014, 15, 1016, 10, 62, 6002, 1, 45, 2, 3, 6002, 4, 29, 11, 6002, 6, 7, 7, 8, 1012, 13, 1014, 15, 1016, 12, 16, 13, 6002, 6, 5, 7, 8, 1014, 15, 1016, 14, 5, 1006, 7, 8, 15, 1016, 6, 9, 7, 8, 1004, 11, 1012, 13, 1014, 15, 1016, 6, 12, 7, 8, 1001, 2, 3, 1004, 11, 1012, 13, 1014, 15, 1016]), (2018, [2000, 2002, 1001, 1003, 4, 5, 2006, 2008, 1007, 1009, 10, 11, 12, 1013, 14, 15]), (3010, [2, 6, 8, 11, 12]), (3011, [2, 6, 8, 11, 12]), (3015, [2, 6, 8]), (3018, [8])]
  | 6 => [(0, [1, 2]), (1, [1, 2, 27]), (2, [4]), (3, [1, 51]), (4, [4]), (5, [1, 5, 6]), (6, [1, 5, 6, 58]), (7, [4]), (8, [4]), (999, [4]), (3003, [1, 2]), (3005, [1]), (3008, [5])]
  | 7 => [(0, [2, 3]), (1, [2, 3, 5]), (2, [2, 3, 5, 6]), (3, [2, 3, 5, 6, 7]), (4, [2, 3, 5, 6, 7, 8]), (5, [2, 3, 5, 6, 7, 8, 53]), (6, [2, 3, 5, 6, 7, 8]), (7, [2, 3, 5, 6, 7, 8, 9, 10]), (8, [2, 3, 5, 6, 7, 8, 81]), (9, [4]), (10, [2, 11]), (11, [11, 91]), (12, [11]), (13, [11, 12, 13]), (14, [4]), (999, [4]), (1000, [2, 3, 5]), (1001, [2, 3, 5, 6, 7, 8]), (2014, [0, 1, 2, 2003, 2004, 5, 6, 7, 2008, 2010, 1009, 1011, 12, 13, 14, 1015, 16, 17]), (3006, [2, 3, 5, 6, 7, 8]), (3007, [2, 3, 5, 6, 7, 8]), (3010, [2, 3, 5]), (3013, [11])]
  | 8 => [(0, []), (1, [1, 2]), (2, [1, 2, 3, 4]), (3, [1, 2, 3, 4, 5, 6]), (4, [1, 2, 3, 4, 5, 6, 8]), (5, [1, 2, 3, 4, 5, 6, 8, 10]), (6, [1, 2, 3, 4, 5, 6, 8, 10, 12]), (7, [5, 6, 8, 10, 12, 67]), (8, [0]), (9, [8, 10, 12, 84]), (10, [0]), (11, [0]), (999, [0]), (3009, [5, 6, 8, 10, 12]), (3011, [8, 10, 12])]
  | 9 => [(0, [0, 2]), (1, [0, 2, 14]), (2, [2, 3]), (3, [0, 2, 4]), (4, [2, 4, 5, 6, 7]), (5, [2, 4, 5, 6, 7, 22]), (6, [2, 4, 5, 7, 8, 9]), (7, [2, 4, 5, 7, 8, 29]), (8, [2, 3]), (9, [2, 4, 5, 7]), (10, [2, 4, 5, 7, 10]), (11, [2, 4, 5, 7, 10, 44]), (12, [2, 4, 5, 10]), (13, [2, 4, 5, 10, 52]), (14, [2, 3]), (15, [2, 4, 5]), (16, [2, 4, 5, 58]), (17, [2, 4, 5]), (18, [2, 4]), (19, [2, 4, 74]), (20, [2, 4]), (21, [2, 4, 84]), (22, [2, 4]), (23, [2, 4, 11]), (24, [2, 4, 11, 92]), (25, [2, 3]), (26, [2, 3]), (999, [2, 3]), (3003, [0, 2]), (3009, [2, 4, 5, 7, 8]), (3010, [2, 4, 5, 7]), (3015, [2, 4, 5, 10]), (3018, [2, 4, 5]), (3021, [2, 4]), (3023, [2, 4]), (3026, [2, 4])]
  | 10 => [(0, [0, 2]), (1, [0, 2, 12]), (2, [2, 3]), (3, [0, 2, 4]), (4, [0, 2, 4, 5]), (5, [0, 2, 4, 5, 23]), (6, [2, 4, 5, 6, 7]), (7, [2, 4, 5, 6, 34]), (8, [2, 3]), (9, [2, 4, 5]), (10, [2, 4, 5, 8]), (11, [2, 4, 5, 8, 9]), (12, [2, 4, 5, 9, 55]), (13, [2, 4, 5, 9, 57]), (14, [2, 3]), (15, [2, 4, 5]), (16, [2, 4, 5, 71]), (17, [2, 4, 5]), (18, [2, 4, 5]), (19, [2, 4, 5, 80]), (20, [2, 4]), (21, [2, 4, 95]), (22, [2, 4]), (23, [2, 4, 106]), (24, [2, 4]), (25, [2, 4, 113]), (26, [2, 3]), (27, [2, 3]), (999, [2, 3]), (2015, [0, 1, 2, 3, 4, 5, 6, 7, 8, 9, 1010, 11]), (3003, [0, 2]), (3009, [2, 4, 5, 6]), (3010, [2, 4, 5]), (3015, [2, 4, 5, 9]), (3018, [2, 4, 5]), (3021, [2, 4]), (3023, [2, 4]), (3025, [2, 4]), (3027, [2, 4])]
  | 11 => [(0, [1]), (1, [1, 5]), (2, [2]), (3, [2]), (999, [2]), (3003, [1])]
  | 12 => [(0, [1]), (1, [1, 5]), (2, [2]), (3, [2]), (999, [2]), (3003, [1])]
  | 13 => [(0, [1]), (1, [1, 12]), (2, [2]), (3, [1, 20]), (4, [1]), (5, [1, 3]), (6, [1, 3, 4, 5]), (7, [1, 3, 4, 30]), (8, [2]), (9, [1, 3, 4, 6, 7]), (10, [1, 3, 4, 43]), (11, [2]), (12, [3, 4, 8]), (13, [3, 4, 53]), (14, [2]), (15, [2]), (999, [2]), (3003, [1]), (3005, [1]), (3009, [1, 3, 4]), (3012, [1, 3, 4]), (3015, [4])]
  | 14 => [(0, [1]), (1, [1, 7]), (2, [2]), (3, [1, 15]), (4, [1]), (5, [1, 3]), (6, [1, 3, 21]), (7, [2]), (8, [1, 3, 4]), (9, [1, 3, 34]), (10, [2]), (11, [3, 40]), (12, [2]), (13, [2]), (999, [2]), (3003, [1]), (3005, [1]), (3008, [1, 3]), (3011, [1, 3]), (3013, [3])]
  | 15 => [(0, [1]), (1, [1, 3]), (2, [1, 3, 4]), (3, [1, 3, 4, 5]), (4, [76]), (5, [2]), (6, [2]), (999, [2]), (3006, [])]
  | 16 => [(0, [1]), (1, [1, 36]), (2, [2]), (3, [1, 73]), (4, [2]), (5, [88]), (6, [2]), (7, [2]), (999, [2]), (3003, [1]), (3005, [1]), (3007, [])]
  | 17 => [(0, [1]), (1, [1, 3, 4]), (2, [1, 3, 4, 5, 6]), (3, [1, 3, 4, 5, 6, 7, 8]), (4, [2]), (999, [2]), (2001, [2000, 2002, 1001, 1003, 4, 5])]
  | 18 => [(0, [0, 1]), (1, [4, 5, 6]), (999, [4, 5, 6])]
  | 19 => [(0, [0, 2]), (1, [0, 2, 4]), (2, [2, 4, 5, 6]), (3, [2, 4, 5, 21]), (4, [2, 3]), (5, [2, 4, 24]), (6, [2, 4, 24, 25, 26]), (7, [2, 4, 7, 8, 24]), (8, [2, 4, 7, 9, 24]), (9, [2, 4, 7, 9, 24, 32]), (10, [2, 3]), (11, [2, 4, 24]), (12, [2, 3]), (999, [2, 3]), (1000, [2, 4]), (1001, [2, 4, 24]), (3005, [2, 4, 5]), (3007, [2, 4, 24, 25]), (3011, [2, 4, 7, 9, 24]), (3012, [2, 4]), (4006, [2, 4, 24])]
  | 20 => [(0, [0, 1]), (1, [4]), (999, [4])]
  | 21 => [(0, [0, 1]), (1, [4]), (999, [4])]
  | 22 => [(0, [0]), (1, [0, 4, 5, 6]), (2, [0, 4, 5, 17]), (3, [2, 3]), (4, [2, 3]), (999, [2, 3]), (3004, [0])]
  | 23 => [(0, [0, 1]), (1, [0, 1, 5]), (2, [0, 1, 5, 6]), (3, [0, 1, 5, 6, 11]), (4, [0, 1, 5, 6]), (5, [0, 1, 5, 6, 18]), (6, [0, 1, 5, 6]), (7, [0, 1, 5, 6]), (8, [4]), (999, [4]), (1000, [5]), (1001, [0, 1, 5, 6]), (3004, [0, 1, 5, 6]), (3005, [0, 1, 5, 6]), (3008, [5])]
  | 24 => [(0, [0, 2]), (1, [0, 2, 4]), (2, [0, 2, 4, 5]), (3, [0, 2, 4, 5, 16]), (4, [0, 2, 4, 5]), (5, [0, 2, 4, 5]), (6, [2, 4, 38]), (7, [2, 3]), (8, [2, 3]), (999, [2, 3]), (1000, [0, 2, 4]), (1001, [0, 2, 4, 5]), (2005, [0, 1, 2, 3, 4, 5, 8, 9, 10, 11, 12, 1006, 7, 1013, 14, 15, 1016]), (3004, [0, 2, 4, 5]), (3005, [0, 2, 4, 5]), (3006, [0, 2, 4]), (3008, [2, 4])]
  | 25 => [(0, [0]), (1, [3]), (2, [3, 30]), (3, [2]), (4, [2]), (999, [2]), (3004, [])]
  | 26 => [(0, [1]), (1, [1, 3]), (2, [1, 3, 12]), (3, [1, 3]), (4, [1, 3, 19]), (5, [3]), (6, [2]), (999, [2]), (3004, [1, 3]), (3006, [3])]
  | 27 => [(0, [1]), (1, [1, 3]), (2, [1, 3, 12]), (3, [1, 3]), (4, [1, 3, 19]), (5, [3]), (6, [2]), (999, [2]), (3004, [1, 3]), (3006, [3])]
  | 28 => [(0, [0, 1]), (1, [4, 5]), (999, [4, 5])]
  | 29 => [(0, [0]), (1, [0, 6, 7]), (2, [0, 6, 7, 8]), (3, [0, 3, 6, 7]), (4, [0, 3, 4, 6, 7]), (5, [0, 6, 7, 36]), (6, [2]), (7, [0, 6, 7]), (8, [2]), (999, [2]), (1000, [0]), (1001, [0, 6, 7]), (3003, [0, 6, 7]), (3007, [0, 6, 7]), (3008, [0])]
  | 30 => [(0, [0]), (1, [2]), (999, [2])]
  | 31 => [(0, [0, 2, 6, 21]), (1, [2, 3, 4, 5, 6, 21]), (2, [2, 3, 6, 18, 21]), (3, [2]), (4, [2, 6, 20, 21]), (5, []), (6, [2, 24]), (7, [2]), (8, [2]), (999, [2]), (1000, [2]), (1001, []), (3004, [2, 3, 6, 21]), (3008, [2])]
  | 32 => [(0, [0, 2, 3, 6]), (1, [2, 3, 5, 6]), (2, []), (3, [2, 9]), (4, [2]), (5, [2]), (999, [2]), (1000, [2]), (1001, []), (3005, [2])]
  | 33 => [(0, [0]), (1, [3]), (2, [3, 36]), (3, [2]), (4, [4]), (5, [4, 5]), (6, [4, 5, 44]), (7, [4, 5]), (8, [4, 5, 6]), (9, [4, 5, 79]), (10, [2]), (11, [2]), (999, [2]), (1000, []), (1001, [4, 5]), (3004, [3]), (3007, [4, 5]), (3008, [4, 5]), (3011, [])]
  | 34 => [(0, [0]), (1, [3]), (2, [3, 4]), (3, [3, 4, 10]), (4, [3, 4]), (5, [3, 4, 18]), (6, [2]), (7, [2]), (999, [2]), (1000, []), (1001, [3, 4]), (3004, [3, 4]), (3005, [3, 4]), (3007, [])]
  | 35 => [(0, [0, 1]), (1, [0, 1, 5]), (2, [0, 1, 5, 11]), (3, [0, 1, 5]), (4, [0, 1, 5, 6]), (5, [0, 1, 5, 6, 7]), (6, [0, 1, 5, 6, 7, 17]), (7, [0, 1, 5, 6, 7]), (8, [0, 1, 5, 6, 7]), (9, [0, 1, 5, 31]), (10, [4]), (11, [4]), (999, [4]), (1000, []), (1001, [0, 1, 5]), (1002, [0, 1, 5, 6]), (1003, [0, 1, 5, 6, 7]), (3003, [0, 1, 5]), (3004, [0, 1, 5]), (3007, [0, 1, 5, 6, 7]), (3008, [0, 1, 5, 6, 7]), (3009, [0, 1, 5, 6]), (3011, [])]
  | 36 => [(0, [0, 1]), (1, [0, 1, 7]), (2, [0, 1, 7, 12]), (3, [4, 5, 6]), (4, [4, 5, 6]), (999, [4, 5, 6]), (3004, [0])]
  | 37 => [(0, [0, 1]), (1, [0, 7]), (2, [0, 7, 8]), (3, [0, 7, 8, 9]), (4, [0, 7, 8, 9]), (5, [0, 7, 8, 9, 26]), (6, [0, 7, 8, 9, 33]), (7, [0, 7, 8, 9, 11]), (8, [0, 7, 8, 9, 11, 43]), (9, [4]), (10, [0, 7, 8, 9]), (11, [0, 7, 8, 9, 12]), (12, [0, 7, 8, 9, 12, 51]), (13, [0, 7, 8, 9, 12]), (14, [0, 7, 8, 9, 12, 64]), (15, [4]), (16, [0, 7, 8, 9, 10]), (17, [0, 7, 8, 9, 10]), (18, [0, 7, 8, 9, 98]), (19, [4]), (20, [8, 9, 13]), (21, [8, 9, 13, 108]), (22, [4]), (23, [0, 7, 8, 9, 14]), (24, [0, 7, 8, 9, 14, 15]), (25, [0, 7, 8, 9, 14, 15, 124]), (26, [0, 7, 8, 9, 14, 15]), (27, [0, 7, 8, 9, 14, 15, 139]), (28, [0, 7, 8, 9, 14, 15, 16]), (29, [0, 7, 8, 9, 14, 15, 16, 143]), (30, [0, 7, 8, 9, 14, 15, 16]), (31, [0, 7, 8, 9, 14, 15, 16, 156]), (32, [4]), (33, [4]), (34, [0, 1, 160]), (35, [4]), (36, [0, 1, 171]), (37, [175]), (38, [175, 176, 177]), (39, [5, 6, 175]), (40, [5, 175, 181]), (41, [4]), (42, [4]), (43, [0, 1, 183]), (44, [4]), (999, [4]), (1000, [4]), (1001, []), (1002, [0, 7, 8, 9]), (1003, [8, 9]), (1004, [0, 7, 8, 9, 12]), (1005, []), (1006, [0, 7, 8, 9, 14, 15]), (1007, [8, 9]), (1008, [0, 7, 8, 9, 14, 15, 16]), (1009, []), (1010, [175]), (3006, [0, 7, 8, 9]), (3010, [0, 7, 8, 9, 11]), (3011, [0, 7, 8, 9]), (3013, [0, 7, 8, 9, 12]), (3014, [0, 7, 8, 9, 12]), (3015, [8, 9]), (3019, []), (3026, [0, 7, 8, 9, 14, 15]), (3027, [0, 7, 8, 9, 14, 15]), (3030, [0, 7, 8, 9, 14, 15, 16]), (3031, [0, 7, 8, 9, 14, 15, 16]), (3032, [8, 9]), (3033, []), (3039, [175, 176]), (3042, []), (4005, [0, 7, 8, 9]), (4038, [175])]
  | 38 => [(0, [0, 1]), (1, [0, 1, 5]), (2, [0, 1, 5, 10]), (3, [0, 1, 5]), (4, [0, 1, 5, 17]), (5, [4]), (6, [4]), (999, [4]), (1000, []), (1001, [0, 1, 5]), (3003, [0, 1, 5]), (3004, [0, 1, 5]), (3006, [])]
  | 39 => [(0, [0, 1]), (1, [4]), (999, [4])]
  | 40 => [(0, [0]), (1, [0, 3]), (2, [0, 3, 5]), (3, [0, 3]), (4, [0, 3, 12]), (5, [2]), (6, [2]), (999, [2]), (1000, []), (1001, [0, 3]), (3003, [0, 3]), (3004, [0, 3]), (3006, [])]
  | 41 => [(0, [1]), (1, [1, 3]), (2, [1, 3, 4]), (3, [1, 3, 4, 6]), (4, [1, 3, 4]), (5, [1, 3, 4]), (6, [2]), (999, [2]), (1000, [3]), (1001, [1, 3, 4]), (2005, [0, 1, 2, 2003, 4, 7, 8, 2009, 10, 1005, 6, 1011, 12, 13]), (3004, [1, 3, 4]), (3005, [1, 3, 4]), (3006, [3])]
  | 42 => [(0, [1]), (1, [2]), (999, [2])]
  | 43 => [(0, [0, 1]), (1, [0, 1, 9]), (2, [4, 5]), (3, [4, 5]), (999, [4, 5]), (3003, [0, 1])]
  | 44 => [(0, [0]), (1, [2]), (999, [2])]
  | 45 => [(0, [0]), (1, [2]), (999, [2])]
  | 46 => [(0, [0, 1]), (1, [4]), (999, [4])]
  | 47 => [(0, [0]), (1, [2]), (999, [2])]
  | 48 => [(0, [0, 1]), (1, [4]), (999, [4])]
  | 49 => [(0, [0]), (1, [0, 5, 6]), (2, [0, 5, 6, 7]), (3, [0, 3, 5, 6]), (4, [0, 5, 6, 37]), (5, [2]), (6, [0, 5, 6]), (7, [2]), (999, [2]), (1000, [0]), (1001, [0, 5, 6]), (3003, [0, 5, 6]), (3006, [0, 5, 6]), (3007, [0])]
  | 50 => [(0, [0]), (1, [0, 3]), (2, [0, 3, 13]), (3, [0, 3]), (4, [0, 3, 19]), (5, [0, 3]), (6, [2]), (999, [2]), (1000, [3]), (1001, [0, 3]), (3003, [0]), (3006, [3]), (4002, [0, 3])]
  | 51 => [(0, [0]), (1, [0, 26]), (2, [2]), (3, [0, 3]), (4, [0, 3, 4]), (5, [0, 3, 4, 30]), (6, [0, 3, 4]), (7, [0, 3, 4, 39]), (8, [0, 3, 4]), (9, [0, 4, 65]), (10, [2]), (11, [0, 3, 4]), (12, [2]), (999, [2]), (1000, []), (1001, [0, 3, 4]), (3003, [0]), (3006, [0, 3, 4]), (3007, [0, 3, 4]), (3009, [0, 3, 4]), (3011, [0, 4]), (3012, [])]
  | 52 => [(0, [0, 1]), (1, [0, 1, 5]), (2, [0, 1, 5, 16]), (3, [4]), (4, [0, 1, 5, 24]), (5, [4]), (6, [0, 1, 5, 31]), (7, [4]), (8, [0, 1, 5, 36]), (9, [4]), (10, [0, 1, 5, 6]), (11, [0, 1, 5, 6, 7]), (12, [0, 1, 5, 6, 7, 8]), (13, [0, 1, 5, 6, 7, 8, 9]), (14, [0, 1, 5, 6, 7, 8, 9, 10]), (15, [0, 1, 5, 6, 7, 8, 9, 10, 59]), (16, [0, 1, 5, 6, 7, 8, 9, 10, 64]), (17, [0, 1, 5, 6, 7, 8, 9, 10, 11]), (18, [0, 1, 5, 6, 7, 8, 9, 10, 11, 73]), (19, [4]), (20, [0, 1, 5, 6, 7, 8, 9, 10]), (21, [0, 1, 5, 6, 7, 8, 9, 10, 93]), (22, [4]), (23, [0, 1, 5, 6, 7, 8, 9, 10]), (24, [0, 1, 5, 6, 7, 8, 9, 10]), (25, [0, 1, 5, 6, 7, 8, 9, 10, 107]), (26, [8, 12]), (27, [8, 12, 114]), (28, [4]), (29, [4]), (30, [0, 1, 5, 6, 7, 8, 9, 10, 132]), (31, [8, 13]), (32, [8, 13, 139]), (33, [4]), (34, [4]), (35, [4]), (999, [4]), (1000, [0, 1, 5]), (1001, []), (1002, [0, 1, 5, 6, 7, 8, 9, 10]), (3010, [0, 1, 5]), (3016, [0, 1, 5, 6, 7, 8, 9, 10]), (3020, [0, 1, 5, 6, 7, 8, 9, 10, 11]), (3021, [0, 1, 5, 6, 7, 8, 9, 10]), (3023, [0, 1, 5, 6, 7, 8, 9, 10]), (3029, []), (3034, [8, 13]), (3035, []), (4015, [0, 1, 5, 6, 7, 8, 9, 10])]
  | 53 => [(0, [0, 1]), (1, [4]), (999, [4])]
  | 54 => [(0, [0]), (1, [0, 3]), (2, [2]), (3, [10]), (4, [2]), (5, [2]), (999, [2]), (1000, []), (3005, [])]
  | 55 => [(0, [0]), (1, [2]), (999, [2])]
  | 57 => [(0, [0]), (1, [2]), (999, [2])]
  | 58 => [(0, [1]), (1, [1, 3]), (2, [3, 6, 7]), (3, [3, 6, 7, 8]), (4, [3, 5, 6, 7]), (5, [3, 5, 6, 7]), (6, [3, 6, 7]), (7, [3, 6, 7]), (8, [2]), (999, [2]), (1000, [3]), (1001, [3, 6, 7]), (3004, [3, 6, 7]), (3007, [3, 6, 7]), (3008, [3])]
  | 59 => [(0, [0, 1]), (1, [4]), (999, [4])]
  | 60 => [(0, [0]), (1, [2]), (999, [2])]
  | 61 => [(0, [0, 1]), (1, [0, 1, 12]), (2, [4]), (3, [0, 1, 15]), (4, [0, 5]), (5, [0, 5, 20]), (6, [0, 5]), (7, [4]), (8, [0, 1, 26]), (9, [0, 1, 6, 7]), (10, [0, 1, 6, 32]), (11, [0, 6, 8]), (12, [0, 6, 8, 36]), (13, [0, 6, 8]), (14, [0, 6, 8, 42]), (15, [4]), (16, [4]), (17, [1, 45]), (18, [1, 45, 46, 47]), (19, [1, 9, 10, 45]), (20, [1, 9, 45, 53]), (21, [4]), (22, [4]), (999, [4]), (1000, []), (1001, [0, 6, 8]), (1002, []), (1003, [1, 45]), (3003, [0, 1]), (3007, [0, 5]), (3008, [0, 1]), (3013, [0, 6, 8]), (3014, [0, 6, 8]), (3016, []), (3017, [0, 1]), (3019, [1, 45, 46]), (3022, []), (4018, [1, 45])]
  | 62 => [(0, [0, 1]), (1, [0, 1, 12]), (2, [4]), (3, [0, 1, 21]), (4, [4]), (5, [0, 1, 5, 6]), (6, [0, 1, 5, 34]), (7, [4]), (8, [4]), (999, [4]), (2004, [0, 1, 2, 4, 5, 1003, 1006, 7]), (3003, [0, 1]), (3005, [0, 1]), (3008, [0, 1])]
  | 63 => [(0, [3, 4, 5]), (1, [6]), (999, [6])]
  | 64 => [(0, [0]), (1, [0, 4]), (2, [0, 4, 20]), (3, [0, 4]), (4, [2, 3]), (999, [2, 3]), (1000, [0, 4]), (1001, [0, 4]), (3003, [0, 4]), (3004, [0, 4]), (4002, [0, 4])]
  | 65 => [(0, [0]), (1, [0, 4]), (2, [0, 4, 15]), (3, [2, 3]), (4, [0, 17, 18]), (5, [0, 17, 18, 19]), (6, [0, 6, 17, 18]), (7, [0, 7, 8, 17, 18]), (8, [0, 7, 17, 18, 27]), (9, [2, 3]), (10, [0, 17, 18]), (11, [2, 3]), (999, [2, 3]), (1000, [0]), (1001, [0, 17, 18]), (3004, [0]), (3006, [0, 17, 18]), (3010, [0, 17, 18]), (3011, [0])]
  | 66 => [(0, [0, 1]), (1, [4]), (999, [4])]
  | 67 => [(0, [0, 1]), (1, [0, 1, 5, 6]), (2, [0, 1, 5, 6, 7]), (3, [0, 1, 5, 6, 7, 8]), (4, [0, 1, 5, 6, 7, 8, 9]), (5, [0, 1, 5, 6, 7, 8, 9, 20]), (6, [0, 1, 5, 6, 7, 8, 9]), (7, [0, 1, 5, 6, 7, 8, 9]), (8, [0, 1, 5, 6, 7, 8, 39]), (9, [4]), (10, [0, 1, 5, 6, 7, 8, 10]), (11, [0, 1, 5, 6, 7, 8, 10, 44]), (12, [0, 1, 5, 6, 7, 8, 10]), (13, [0, 1, 5, 6, 7, 8, 10]), (14, [0, 1, 5, 6, 7, 8, 10]), (15, [0, 1, 5, 6, 7, 8, 10]), (16, [0, 1, 5, 6, 7, 8, 10, 77]), (17, [4]), (18, [4]), (999, [4]), (1000, [0, 1, 5, 6, 7, 8]), (1001, [0, 1, 5, 6, 7, 8, 9]), (1002, []), (1003, [0, 1, 5, 6, 7, 8, 10]), (3006, [0, 1, 5, 6, 7, 8, 9]), (3007, [0, 1, 5, 6, 7, 8, 9]), (3008, [0, 1, 5, 6, 7, 8]), (3010, [0, 1, 5, 6, 7, 8]), (3012, [0, 1, 5, 6, 7, 8, 10]), (3018, []), (4011, [0, 1, 5, 6, 7, 8, 10])]
  | 68 => [(0, [0, 1]), (1, [0, 1]), (2, []), (3, [4]), (999, [4])]
  | 69 => [(0, [0]), (1, [2]), (999, [2])]
  | 70 => [(0, [0]), (1, [2]), (999, [2])]
  | 71 => [(0, [0, 2]), (1, [0, 2, 4]), (2, [0, 2, 4, 9]), (3, [0, 2, 4]), (4, [0, 2, 4, 5]), (5, [0, 2, 4, 5, 16]), (6, [2, 3]), (7, [0, 2, 4]), (8, [2, 3]), (999, [2, 3]), (1000, [2]), (1001, [0, 2, 4]), (3003, [0, 2, 4]), (3004, [0, 2, 4]), (3007, [0, 2, 4, 5]), (3008, [2])]
  | 72 => [(0, [0, 1]), (1, [4]), (999, [4])]
  | 73 => [(0, [0, 1]), (1, [0, 1, 13]), (2, [0, 1]), (3, [4]), (999, [4]), (1000, [0]), (1001, [0, 1]), (3002, [0, 1]), (3003, [0]), (4001, [0, 1])]
  | 74 => [(0, [0, 1]), (1, [0, 1, 16]), (2, [0, 1]), (3, [4]), (999, [4]), (1000, [0]), (1001, [0, 1]), (3002, [0, 1]), (3003, [0]), (4001, [0, 1])]
  | 75 => [(0, [0, 1]), (1, [0, 1, 7]), (2, [0, 1, 12]), (3, [0, 1]), (4, [4]), (999, [4]), (1000, [0]), (1001, [0, 1]), (3002, [0, 1]), (3003, [0, 1]), (3004, [0]), (4001, [0, 1])]
  | 76 => [(0, [0, 1]), (1, [0, 1, 7]), (2, [0, 1, 15]), (3, [0, 1]), (4, [4]), (999, [4]), (1000, [0]), (1001, [0, 1]), (3002, [0, 1]), (3003, [0, 1]), (3004, [0]), (4001, [0, 1])]
  | 77 => [(0, [0, 1]), (1, [0, 1, 9]), (2, [0, 1, 5, 6]), (3, [0, 1, 6, 18]), (4, [0, 1]), (5, [4]), (999, [4]), (1000, [0]), (1001, [0, 1]), (3002, [0, 1]), (3004, [0, 1, 6]), (3005, [0]), (4001, [0, 1])]
  | 78 => [(0, [0, 1]), (1, [0, 1, 9]), (2, [0, 1, 5, 6]), (3, [0, 1, 5, 6, 17]), (4, [0, 1, 5, 6]), (5, [0, 1, 6, 26]), (6, [0, 1]), (7, [4]), (999, [4]), (1000, [0]), (1001, [0, 1]), (3002, [0, 1]), (3005, [0, 1, 5, 6]), (3006, [0, 1, 6]), (3007, [0]), (4001, [0, 1])]
  | 79 => [(0, [0, 1, 2, 3, 11]), (1, [0, 2, 14]), (2, [0, 2, 6]), (3, [0, 2, 6, 25]), (4, [0, 2]), (5, [0, 1, 2, 3, 7]), (6, [0, 1, 2, 3, 7, 33]), (7, [0, 1, 2, 3, 7, 8]), (8, [0, 1, 2, 3, 7, 42]), (9, [0, 1, 2, 3]), (10, []), (999, []), (1000, []), (1001, [0, 2]), (1002, [0, 2]), (1003, [0, 1, 2, 3]), (3002, [0, 2]), (3004, [0, 2, 6]), (3005, [0, 1, 2, 3]), (3007, [0, 1, 2, 3, 7]), (3009, [0, 1, 2, 3, 7]), (3010, [0, 2]), (4001, [0, 2]), (4005, [0, 1, 2, 3])]
  | 80 => [(0, [0]), (1, [0, 10]), (2, [2, 3]), (3, [2, 3]), (999, [2, 3])]
  | 81 => [(0, [0, 1]), (1, [0, 1, 12]), (2, [4]), (3, [0, 1, 21]), (4, [4]), (5, [0, 1, 5, 6]), (6, [0, 1, 5, 31]), (7, [4]), (8, [4]), (999, [4]), (3003, [0, 1]), (3005, [0, 1]), (3008, [0, 1])]
  | 83 => [(0, [0]), (1, [0, 4]), (2, [0, 4, 5]), (3, [0, 4, 5, 12]), (4, [0, 4, 5]), (5, [0, 4, 5]), (6, [0, 4, 6, 7]), (7, [4, 6, 7, 8]), (8, [4, 6, 7, 8, 25]), (9, [4, 6, 7, 8]), (10, [4, 6, 7, 8, 30]), (11, [4, 6, 7, 8]), (12, [4, 6, 7, 8]), (13, [2, 3]), (999, [2, 3]), (1000, [0, 4]), (1001, [0, 4, 5]), (1002, [4, 6]), (1003, [4, 6, 7, 8]), (3004, [0, 4, 5]), (3005, [0, 4, 5]), (3006, [0, 4]), (3009, [4, 6, 7, 8]), (3010, [4, 6, 7, 8]), (3012, [4, 6, 7, 8]), (3013, [4, 6])]
  | 84 => [(0, [0, 6]), (1, []), (2, [19]), (999, [])]
  | 85 => [(0, [0, 1]), (1, [4]), (999, [4])]
  | 86 => [(0, [0]), (1, [0, 4]), (2, [0, 4, 10]), (3, [2, 3]), (4, [0, 4, 5]), (5, [0, 2, 4, 5]), (6, [0, 2, 4, 5, 18]), (7, [2, 3]), (8, [0, 4, 5, 6]), (9, [0, 4, 5, 6]), (10, [0, 4, 5, 6, 27]), (11, [0, 4, 5, 6]), (12, [0, 4, 5, 6, 33]), (13, [0, 4, 5, 35]), (14, [0, 4, 5]), (15, [2, 3, 4, 5]), (16, [2, 3, 48]), (17, [2, 3]), (18, [2, 3]), (999, [2, 3]), (1000, [0, 4, 5]), (1001, [0, 4, 5, 6]), (3004, [0, 4]), (3008, [0, 4, 5]), (3011, [0, 4, 5, 6]), (3012, [0, 4, 5, 6]), (3013, [0, 4, 5]), (3015, [0, 4, 5]), (3018, [2, 3])]
  | 87 => [(0, [0]), (1, [0, 4]), (2, [0, 4, 16]), (3, [2, 3]), (4, [0, 4, 5]), (5, [0, 4, 5, 6]), (6, [0, 4, 5, 6, 23]), (7, [0, 7]), (8, [2, 3]), (9, [0, 4, 5, 6, 8]), (10, [0, 4, 5, 8, 9]), (11, [0, 5, 8, 9, 45]), (12, [2, 3]), (13, [0, 5, 8, 9, 10]), (14, [0, 5, 8, 10, 57]), (15, [2, 3]), (16, [0, 5, 8, 10, 59]), (17, [2, 3]), (18, [0, 5, 8, 10, 11]), (19, [0, 5, 8, 10, 11, 75]), (20, [2, 3]), (21, [0, 5, 10, 11, 77]), (22, [2, 3]), (23, [5, 10, 11, 12]), (24, [5, 10, 11, 12, 98]), (25, [2, 3]), (26, [2, 3]), (999, [2, 3]), (3004, [0, 4]), (3009, [0, 4, 5, 6]), (3013, [0, 5, 8, 9]), (3016, [0, 5, 8, 10]), (3018, [0, 5, 8, 10]), (3021, [0, 5, 8, 10, 11]), (3023, [0, 5, 10, 11]), (3026, [5, 10, 11, 12])]
  | 89 => [(0, [0]), (1, [2]), (999, [2])]
  | 112 => [(0, []), (999, [])]
  | _ => []
end Go.Proofs.YtofcjkbgieenlaaDoor.PM

namespace Go.Proofs.YtofcjkbgieenlaaDoor.PM
open Go

/-- Where a row lies: its block, where it begins, how many cells an element has, how many cells are its own. -/
structure Place where
  blk : Nat
  base : Nat
  esz : Nat
  lim : Option Nat

abbrev Mu := List Place

def Place.at (p : Place) (i j : Nat) : Addr := ⟨p.blk, p.base + i * p.esz + j, none⟩

mutual
inductive VR (μ : Mu) : Value → Value → Prop
  | junk (v : Value) : VR μ (.chan none) v
  | bool (b : Bool) : VR μ (.bool b) (.bool b)
  | int (k : IntKind) (n : Int) : VR μ (.int k n) (.int k n)
  | string (s : ByteArray) : VR μ (.string s) (.string s)
  | nilp : VR μ (.pointer none) (.pointer none)
  | ptr {b i j : Nat} {p : Place} : μ[b]? = some p → VR μ (.pointer (some ⟨b, i, some j⟩)) (.pointer (some (p.at i j)))
  | nils : VR μ (.slice none 0 0) (.slice none 0 0)
  | slice {b i n c c' : Nat} {p : Place} : μ[b]? = some p → n ≤ c' → (∀ L, p.lim = some L → (i + c') * p.esz ≤ L) →
      VR μ (.slice (some ⟨b, i, none⟩) n c) (.slice (some (p.at i 0)) n c')
  | slice0 {b i c : Nat} (a : Addr) : VR μ (.slice (some ⟨b, i, none⟩) 0 c) (.slice (some a) 0 0)
  | nilf : VR μ .nilFunc .nilFunc
  | nili : VR μ .nilIface .nilIface
  | nilm : VR μ (.map none) (.map none)
  | iface {t : TypeId} {v v' : Value} : VR μ v v' → VR μ (.iface t v) (.iface t v')
  | func {fn : Fn} {l m l' m' : List Value} : VRs μ l l' → VRs μ m m' → VR μ (.func fn ⟨l⟩ ⟨m⟩) (.func fn ⟨l'⟩ ⟨m'⟩)
  | agg {l l' : List Value} : VRs μ l l' → VR μ (.agg ⟨l⟩) (.agg ⟨l'⟩)
  | tuple {l l' : List Value} : VRs μ l l' → VR μ (.tuple ⟨l⟩) (.tuple ⟨l'⟩)
inductive VRs (μ : Mu) : List Value → List Value → Prop
  | nil : VRs μ [] []
  | cons {v v' : Value} {l l' : List Value} : VR μ v v' → VRs μ l l' → VRs μ (v :: l) (v' :: l')
end

def Mu.le (μ μ' : Mu) : Prop := ∀ (b : Nat) (p : Place), μ[b]? = some p → μ'[b]? = some p

mutual
theorem VR.mono {μ μ' : Mu} (h : Mu.le μ μ') : ∀ {v v' : Value}, VR μ v v' → VR μ' v v'
  | _, _, .junk v => .junk v
  | _, _, .bool b => .bool b
  | _, _, .int k n => .int k n
  | _, _, .string s => .string s
  | _, _, .nilp => .nilp
  | _, _, .ptr hp => .ptr (h _ _ hp)
  | _, _, .nils => .nils
  | _, _, .slice hp hn hl => .slice (h _ _ hp) hn hl
  | _, _, .slice0 a => .slice0 a
  | _, _, .nilf => .nilf
  | _, _, .nili => .nili
  | _, _, .nilm => .nilm
  | _, _, .iface hv => .iface (hv.mono h)
  | _, _, .func a b => .func (a.mono h) (b.mono h)
  | _, _, .agg a => .agg (a.mono h)
  | _, _, .tuple a => .tuple (a.mono h)
theorem VRs.mono {μ μ' : Mu} (h : Mu.le μ μ') : ∀ {v v' : List Value}, VRs μ v v' → VRs μ' v v'
  | _, _, .nil => .nil
  | _, _, .cons a b => .cons (a.mono h) (b.mono h)
end

theorem VRs.length {μ : Mu} {l l' : List Value} (h : VRs μ l l') : l'.length = l.length := by
  induction l generalizing l' with
  | nil => cases h; rfl
  | cons v l ih => cases h with | cons a b => simp [ih b]

theorem VRs.get {μ : Mu} {l l' : List Value} (h : VRs μ l l') {i : Nat} {v : Value} (hv : l[i]? = some v) : ∃ v', l'[i]? = some v' ∧ VR μ v v' := by
  induction l generalizing l' i with
  | nil => simp at hv
  | cons u l ih =>
    cases h with
    | cons a b =>
      cases i with
      | zero => simp at hv; subst hv; exact ⟨_, rfl, a⟩
      | succ i => simpa using ih b (by simpa using hv)

theorem VRs.drop {μ : Mu} {l l' : List Value} (h : VRs μ l l') (n : Nat) : VRs μ (l.drop n) (l'.drop n) := by
  induction n generalizing l l' with
  | zero => simpa using h
  | succ n ih => cases h with
    | nil => exact .nil
    | cons a b => simpa using ih b

theorem VRs.take {μ : Mu} {l l' : List Value} (h : VRs μ l l') (n : Nat) : VRs μ (l.take n) (l'.take n) := by
  induction n generalizing l l' with
  | zero => simpa using .nil
  | succ n ih => cases h with
    | nil => exact .nil
    | cons a b => simpa using .cons a (ih b)

theorem VRs.append {μ : Mu} {l l' m m' : List Value} (h : VRs μ l l') (k : VRs μ m m') : VRs μ (l ++ m) (l' ++ m') := by
  induction l generalizing l' with
  | nil => cases h; exact k
  | cons v l ih => cases h with | cons a b => exact .cons a (ih b)

theorem VRs.of_get {μ : Mu} : ∀ {l l' : List Value}, l'.length = l.length → (∀ (i : Nat) (v : Value), l[i]? = some v → ∃ v', l'[i]? = some v' ∧ VR μ v v') → VRs μ l l'
  | [], [], _, _ => .nil
  | [], _ :: _, h, _ => by simp at h
  | _ :: _, [], h, _ => by simp at h
  | v :: l, v' :: l', h, k => by
    obtain ⟨u, hu, hr⟩ := k 0 v rfl
    simp at hu
    subst hu
    exact .cons hr (VRs.of_get (by simpa using h) fun i w hw => by simpa using k (i + 1) w (by simpa using hw))

theorem VRs.map {μ : Mu} {α : Type} (f g : α → Value) (h : ∀ x, VR μ (f x) (g x)) : ∀ l : List α, VRs μ (l.map f) (l.map g)
  | [] => .nil
  | x :: l => .cons (h x) (VRs.map f g h l)

theorem VR.plain {μ : Mu} {v : Value} (h : plainV v = true) : VR μ v v := by
  unfold plainV at h
  split at h <;> first | constructor | cases h

theorem VRs.plain {μ : Mu} : ∀ {l : List Value}, plainL l = true → VRs μ l l
  | [], _ => .nil
  | v :: l, h => by
    simp only [plainL, Bool.and_eq_true] at h
    exact .cons (VR.plain h.1) (VRs.plain h.2)

theorem VR.const {μ : Mu} (v : Value) : VR μ (constV v) v := by
  unfold constV
  split
  · rename_i cs
    cases h : plainL cs.toList
    · exact .junk _
    · obtain ⟨l⟩ := cs
      exact .agg (VRs.plain h)
  · cases h : plainV v
    · exact .junk _
    · exact VR.plain h

/-- A row as it lies. -/
structure RowOk (μ : Mu) (w : World) (C : Codec) (esz : Nat) (l : List C.α) (m : VMode) (p : Place) : Prop where
  pe : p.esz = esz
  blk : p.blk < w.heap.size
  lens : ∀ x ∈ l, (C.enc x).length = esz
  cells : ∀ (i j : Nat) (x : C.α) (v : Value), l[i]? = some x → (C.enc x)[j]? = some v → ∃ v', w.cell? (p.at i j) = some v' ∧ VR μ v v'
  own : m = .own → ∃ L, p.lim = some L ∧ l.length * esz ≤ L ∧ ∀ i, i < L → (∃ v, w.cell? ⟨p.blk, p.base + i, none⟩ = some v) ∧ w.frozen? ⟨p.blk, p.base + i, none⟩ = false

/-- How far a row reaches. -/
def ext (p : Place) (m : VMode) (n : Nat) : Nat := match m with | .own => p.lim.getD 0 | _ => n

structure HR (μ : Mu) (H : VH) (w : World) : Prop where
  len : μ.length = H.length
  row : ∀ (b : Nat) (C : Codec) (esz : Nat) (l : List C.α) (m : VMode), hget H b = .row C esz l m → ∃ p, μ[b]? = some p ∧ RowOk μ w C esz l m p
  iter : ∀ (b : Nat) (s : ByteArray) (pos : Nat), hget H b = .iter s pos → ∃ p, μ[b]? = some p ∧ w.heap[p.blk]? = some (.stringIter s pos) ∧ p.base = 0
  sep : ∀ (b1 b2 : Nat) (C1 C2 : Codec) (e1 e2 : Nat) (l1 : List C1.α) (l2 : List C2.α) (m2 : VMode) (p1 p2 : Place), b1 ≠ b2 →
    hget H b1 = .row C1 e1 l1 .own → hget H b2 = .row C2 e2 l2 m2 → μ[b1]? = some p1 → μ[b2]? = some p2 → p1.blk = p2.blk →
    ∀ i j, i < p1.lim.getD 0 → j < ext p2 m2 (l2.length * e2) → (m2 = .stale → l1.length * e1 ≤ i) → p1.base + i ≠ p2.base + j
  isep : ∀ (b1 b2 : Nat) (s1 s2 : ByteArray) (o1 o2 : Nat) (p1 p2 : Place), b1 ≠ b2 → hget H b1 = .iter s1 o1 → hget H b2 = .iter s2 o2 →
    μ[b1]? = some p1 → μ[b2]? = some p2 → p1.blk ≠ p2.blk

theorem hget_len {H : VH} {b : Nat} (h : H.length ≤ b) : hget H b = .dead := by
  induction H generalizing b with
  | nil => rfl
  | cons a H ih => cases b with
    | zero => simp at h
    | succ b => exact ih (by simpa using h)

theorem hget_append_lt {H G : VH} {b : Nat} (h : b < H.length) : hget (H ++ G) b = hget H b := by
  induction H generalizing b with
  | nil => simp at h
  | cons a H ih => cases b with
    | zero => rfl
    | succ b => exact ih (by simpa using h)

theorem hget_append_ge {H G : VH} (n : Nat) : hget (H ++ G) (H.length + n) = hget G n := by
  induction H with
  | nil => simp
  | cons a H ih =>
    have : (a :: H).length + n = (H.length + n) + 1 := by simp; omega
    rw [this]
    exact ih

theorem hget_set_ne {H : VH} {b c : Nat} {x : VB} (h : b ≠ c) : hget (hset H b x) c = hget H c := by
  induction H generalizing b c with
  | nil => cases b <;> rfl
  | cons a H ih => cases b with
    | zero => cases c with
      | zero => exact absurd rfl h
      | succ c => rfl
    | succ b => cases c with
      | zero => rfl
      | succ c => exact ih (by omega)

theorem hget_set_eq {H : VH} {b : Nat} {x : VB} (h : b < H.length) : hget (hset H b x) b = x := by
  induction H generalizing b with
  | nil => simp at h
  | cons a H ih => cases b with
    | zero => rfl
    | succ b => exact ih (by simpa using h)

theorem hset_len {H : VH} {b : Nat} {x : VB} : (hset H b x).length = H.length := by
  induction H generalizing b with
  | nil => cases b <;> rfl
  | cons a H ih => cases b with
    | zero => rfl
    | succ b => simp [hset, ih]

theorem hget_map {H : VH} {b : Nat} (f : VB → VB) (hd : f .dead = .dead) : hget (H.map f) b = f (hget H b) := by
  induction H generalizing b with
  | nil => cases b <;> exact hd.symm
  | cons a H ih => cases b with
    | zero => rfl
    | succ b => exact ih

/-- Memory in which the blocks ahead of a number are as they were. -/
theorem HR.later {μ : Mu} {H : VH} {w w' : World} (h : HR μ H w) (hb : ∀ k, k < w.heap.size → w'.heap[k]? = w.heap[k]?) (hs : w.heap.size ≤ w'.heap.size) : HR μ H w' where
  len := h.len
  row b C esz l m hg := by
    obtain ⟨p, hp, r⟩ := h.row b C esz l m hg
    have hc : ∀ o, w'.cell? ⟨p.blk, o, none⟩ = w.cell? ⟨p.blk, o, none⟩ := fun o => World.cell?_of_block (hb _ r.blk)
    have hf : ∀ o, w'.frozen? ⟨p.blk, o, none⟩ = w.frozen? ⟨p.blk, o, none⟩ := fun o => World.frozen?_of_block (hb _ r.blk)
    refine ⟨p, hp, r.pe, Nat.lt_of_lt_of_le r.blk hs, r.lens, fun i j x v h1 h2 => ?_, fun ho => ?_⟩
    · obtain ⟨v', h3, h4⟩ := r.cells i j x v h1 h2
      exact ⟨v', by rw [Place.at, hc]; exact h3, h4⟩
    · obtain ⟨L, h1, h2, h3⟩ := r.own ho
      exact ⟨L, h1, h2, fun i hi => by rw [hc, hf]; exact h3 i hi⟩
  iter b s pos hg := by
    obtain ⟨p, hp, h1, h2⟩ := h.iter b s pos hg
    refine ⟨p, hp, ?_, h2⟩
    rw [hb _ (by
      rcases Nat.lt_or_ge p.blk w.heap.size with h' | h'
      · exact h'
      · rw [Array.getElem?_eq_none h'] at h1; cases h1)]
    exact h1
  sep := h.sep
  isep := h.isep

end Go.Proofs.YtofcjkbgieenlaaDoor.PM

namespace Go.Proofs.YtofcjkbgieenlaaDoor.PM
open Go
set_option linter.unusedVariables false
set_option linter.unusedSimpArgs false

section
variable {P : Program} {μ : Mu} {w : World}

theorem szOf_some {t n : Nat} (h : szOf P t = some n) : ∃ i, P.info? t = some i ∧ i.size = n ∧ P.cellsOf t = n := by
  unfold szOf at h
  cases hi : P.info? t with
  | none => simp [hi] at h
  | some i => simp [hi] at h; exact ⟨i, rfl, h, by simp [Program.cellsOf, hi, h]⟩

theorem run_size {t n : Nat} (h : szOf P t = some n) : (sizeOf t).run P w = .ok n w := by
  obtain ⟨i, hi, _, hc⟩ := szOf_some h
  rw [run_sizeOf w hi, hc]

theorem run_agg {t : Nat} {b : Bool} (h : aggT P t = some b) : (isAgg t).run P w = .ok b w := by
  unfold aggT at h
  split at h
  · rename_i hu; obtain rfl := Option.some.inj h; simp [isAgg, run_underlying hu]
  · rename_i hu; obtain rfl := Option.some.inj h; simp [isAgg, run_underlying hu]
  · rename_i d h1 h2 hu
    obtain rfl := Option.some.inj h
    cases d <;> first | (simp [isAgg, run_underlying hu]; done) | exact absurd rfl (h1 _) | exact absurd rfl (h2 _ _)
  · cases h

theorem drop_head {l r : List Value} {off : Nat} {v : Value} (h : l.drop off = v :: r) : l[off]? = some v := by
  have := congrArg (·[0]?) h
  simpa using this

theorem partV_sound {t off : Nat} {cs cs' : List Value} (hr : VRs μ cs cs') {v : Value} (h : partV P t cs off = some v) :
    ∃ v', (part t ⟨cs'⟩ off).run P w = .ok v' w ∧ VR μ v v' := by
  unfold partV at h
  split at h
  · rename_i n hn hg
    obtain rfl := Option.some.inj h
    refine ⟨.agg ((⟨cs'⟩ : Array Value).extract off (off + n)), by simp [part, run_agg hg, run_size hn], ?_⟩
    have : (⟨cs'⟩ : Array Value).extract off (off + n) = ⟨(cs'.drop off).take n⟩ := by
      apply Array.toList_inj.1
      simp [List.extract_eq_take_drop]
    rw [this]
    exact .agg ((hr.drop off).take n)
  · rename_i n hn hg
    split at h
    · rename_i x r hd
      obtain rfl := Option.some.inj h
      obtain ⟨v', h1, h2⟩ := hr.get (drop_head hd)
      exact ⟨v', by simp [part, run_agg hg, h1], h2⟩
    · cases h
  · cases h

theorem eqFs_sound {d : Nat} {rec : TypeId → Value → Value → Option Bool} (hrec : ∀ t x y x' y' b, VR μ x x' → VR μ y y' → rec t x y = some b → (Op.equalIn d t x' y').run P w = .ok b w)
    {xs ys xs' ys' : List Value} (hx : VRs μ xs xs') (hy : VRs μ ys ys') : ∀ (fs : List Field) (b : Bool), eqFs P rec xs ys fs = some b → (Op.eqFields d ⟨xs'⟩ ⟨ys'⟩ fs).run P w = .ok b w
  | [], b, h => by obtain rfl := Option.some.inj h; rfl
  | f :: fs, b, h => by
    unfold eqFs at h
    cases hn : (f.name == "_") with
    | true => rw [hn] at h; cases h
    | false =>
      rw [hn] at h
      simp only [cond_false] at h
      have hne : f.name ≠ "_" := by simpa using hn
      cases ha : partV P f.type xs f.offset with
      | none => simp [ha] at h
      | some a =>
        cases hb : partV P f.type ys f.offset with
        | none => simp [ha, hb] at h
        | some c =>
          simp only [ha, hb] at h
          obtain ⟨a', p1, q1⟩ := partV_sound (w := w) hx ha
          obtain ⟨c', p2, q2⟩ := partV_sound (w := w) hy hb
          cases he : rec f.type a c with
          | none => simp [he] at h
          | some r =>
            cases hf : eqFs P rec xs ys fs with
            | none => simp [he, hf] at h
            | some r2 =>
              simp only [he, hf] at h
              obtain rfl := Option.some.inj h
              have p3 := hrec _ _ _ _ _ _ q1 q2 he
              have p4 := eqFs_sound hrec hx hy fs r2 hf
              simp only [Op.eqFields, hne, ne_eq, not_false_eq_true, if_true, Sem.run_bind, p1, p2, p3, Result.andThen_ok]
              cases r
              · simp
              · simpa using p4

theorem eqAs_sound {d e n : Nat} {rec : TypeId → Value → Value → Option Bool} (hn : szOf P e = some n)
    (hrec : ∀ t x y x' y' b, VR μ x x' → VR μ y y' → rec t x y = some b → (Op.equalIn d t x' y').run P w = .ok b w)
    {xs ys xs' ys' : List Value} (hx : VRs μ xs xs') (hy : VRs μ ys ys') : ∀ (is : List Nat) (b : Bool), eqAs P rec e n xs ys is = some b → (Op.eqItems d e (P.cellsOf e) ⟨xs'⟩ ⟨ys'⟩ is).run P w = .ok b w
  | [], b, h => by obtain rfl := Option.some.inj h; rfl
  | i :: is, b, h => by
    have hc := (szOf_some hn).choose_spec.2.2
    unfold eqAs at h
    cases ha : partV P e xs (i * n) with
    | none => simp [ha] at h
    | some a =>
      cases hb : partV P e ys (i * n) with
      | none => simp [ha, hb] at h
      | some c =>
        simp only [ha, hb] at h
        obtain ⟨a', p1, q1⟩ := partV_sound (w := w) hx ha
        obtain ⟨c', p2, q2⟩ := partV_sound (w := w) hy hb
        cases he : rec e a c with
        | none => simp [he] at h
        | some r =>
          cases hf : eqAs P rec e n xs ys is with
          | none => simp [he, hf] at h
          | some r2 =>
            simp only [he, hf] at h
            obtain rfl := Option.some.inj h
            have p3 := hrec _ _ _ _ _ _ q1 q2 he
            have p4 := eqAs_sound hn hrec hx hy is r2 hf
            simp only [hc] at p4 ⊢
            simp only [Op.eqItems, Sem.run_bind, p1, p2, p3, Result.andThen_ok]
            cases r
            · simp
            · simpa using p4

theorem fieldsOf_eq {t : Nat} {fs : Array Field} (h : P.underlying t = some (.struct fs)) : P.fieldsOf t = fs := by
  simp [Program.fieldsOf, h]

theorem eqT_sound : ∀ (d k : Nat) (t : TypeId) (x y x' y' : Value) (b : Bool), VR μ x x' → VR μ y y' → eqT P d t x y = some b → (Op.equalIn (d + k) t x' y').run P w = .ok b w
  | 0, _, _, _, _, _, _, _, _, _, h => by cases h
  | d + 1, k, t, x, y, x', y', b, hx, hy, h => by
    unfold eqT at h
    have hdk : d + 1 + k = (d + k) + 1 := by omega
    rw [hdk]
    split at h
    · rename_i hu; cases hx; cases hy; obtain rfl := Option.some.inj h; exact run_equalIn_bool' w _ _ _ _ hu
    · rename_i k1 k2 a k3 c hu
      cases hk : decide (k2 = k3) with
      | false => rw [hk] at h; cases h
      | true =>
        rw [hk] at h
        obtain rfl := of_decide_eq_true hk
        cases hx; cases hy; obtain rfl := Option.some.inj h
        exact run_equalIn_int w _ _ _ _ _ _ hu
    · rename_i hu; cases hx; cases hy; obtain rfl := Option.some.inj h; exact run_equalIn_string w _ _ _ _ hu
    · rename_i fs xs ys hu
      cases hs : P.stoodInHeld t with
      | true => rw [hs] at h; cases h
      | false =>
        rw [hs] at h
        simp only [cond_false] at h
        cases hx with
        | agg hx =>
          cases hy with
          | agg hy =>
            rw [run_equalIn_struct w _ _ _ _ (by rw [fieldsOf_eq hu]; exact hu) hs, fieldsOf_eq hu]
            exact eqFs_sound (fun t x y x' y' b h1 h2 h3 => eqT_sound d k t x y x' y' b h1 h2 h3) hx hy _ _ h
    · rename_i n e xs ys hu
      split at h
      · rename_i m hm
        cases hx with
        | agg hx =>
          cases hy with
          | agg hy =>
            obtain ⟨i, hi, _, _⟩ := szOf_some hm
            rw [run_equalIn_array w _ _ _ hu hi]
            exact eqAs_sound hm (fun t x y x' y' b h1 h2 h3 => eqT_sound d k t x y x' y' b h1 h2 h3) hx hy _ _ h
      · cases h
    · cases h

theorem pickV_sound {a b a' b' : Value} (c : Bool) (ha : VR μ a a') (hb : VR μ b b') : VR μ (pickV c a b) (if c = true then a' else b') := by
  unfold pickV
  split
  · cases ha; cases hb; cases c <;> exact .bool _
  · rename_i k x k' y
    cases hk : decide (k = k') with
    | false => exact .junk _
    | true =>
      obtain rfl := of_decide_eq_true hk
      cases ha; cases hb; cases c <;> exact .int _ _
  · cases ha; cases hb; cases c <;> exact .string _
  · cases c
    · exact hb
    · exact ha

theorem binI_sound {op : BinOp} {k : IntKind} {a b : Int} {c : Bool} {v : Value} (h : binI op k a b = some (c, v)) (hc : c = true) (t : TypeId) :
    (Go.binOp op t (.int k a) (.int k b)).run P w = .ok v w ∧ VR μ v v := by
  subst hc
  cases op <;> simp only [binI] at h <;> first | cases h | skip
  all_goals try (obtain ⟨h1, rfl⟩ := Prod.mk.inj (Option.some.inj h))
  all_goals first
    | (refine ⟨?_, .int _ _⟩; simp [Go.binOp, Op.intArith, Op.intBits]; done)
    | (refine ⟨?_, .bool _⟩; simp [Go.binOp, Op.intCmp]; done)
    | (refine ⟨?_, .int _ _⟩; have hb : b ≠ 0 := (by simpa using h1); simp [Go.binOp, Op.intDiv, hb]; done)

theorem shI_sound {op : BinOp} {k k' : IntKind} {a b : Int} {c : Bool} {v : Value} (h : shI op k a b = some (c, v)) (hc : c = true) (t : TypeId) :
    (Go.binOp op t (.int k a) (.int k' b)).run P w = .ok v w ∧ VR μ v v := by
  subst hc
  cases op <;> simp only [shI] at h <;> first | cases h | skip
  all_goals
    obtain ⟨h1, rfl⟩ := Prod.mk.inj (Option.some.inj h)
    have hb : ¬ b < 0 := by have := of_decide_eq_true h1; omega
    exact ⟨by simp [Go.binOp, Op.shift, hb], .int _ _⟩

theorem binS_sound {op : BinOp} {a b : ByteArray} {c : Bool} {v : Value} (h : binS op a b = some (c, v)) (hc : c = true) (t : TypeId) :
    (Go.binOp op t (.string a) (.string b)).run P w = .ok v w ∧ VR μ v v := by
  subst hc
  cases op <;> simp only [binS] at h <;> first | cases h | skip
  all_goals try (obtain ⟨h1, rfl⟩ := Prod.mk.inj (Option.some.inj h))
  case add =>
    have hb := of_decide_eq_true h1
    have : ¬ (((a.size + b.size : Nat) : Int) > IntKind.i64.max) := by
      have : IntKind.i64.max = 9223372036854775807 := by decide
      rw [this]; omega
    exact ⟨by simp only [Go.binOp, Op.stringOp, this, if_false, Sem.run_pure], .string _⟩
  all_goals exact ⟨by simp [Go.binOp, Op.stringOp], .bool _⟩

theorem guard_scalar (op : BinOp) (t : TypeId) (x y : Operand) {a b : Value} (ha : ∀ l, a ≠ .agg l) (hn : a ≠ .nilIface) : (eqGuard op t x y a b).run P w = .ok () w := by
  cases op <;> cases a <;> first
    | (exact absurd rfl (ha _))
    | (exact absurd rfl hn)
    | (simp [eqGuard]; done)

theorem run_boolEq {t : TypeId} (hu : P.underlying t = some .bool) (a b : Bool) : (Go.binOp .eql t (.bool a) (.bool b)).run P w = .ok (.bool (a == b)) w ∧ (Go.binOp .neq t (.bool a) (.bool b)).run P w = .ok (.bool (!(a == b))) w := by
  have h : (Op.equal t (.bool a) (.bool b)).run P w = .ok (a == b) w := run_equalIn_bool' w 9999 t a b hu
  exact ⟨by simp [Go.binOp, h], by simp [Go.binOp, h]⟩

theorem gets_sound {H : VH} {C : Codec} {esz : Nat} {l : List C.α} {m : VMode} {p : Place} (r : RowOk μ w C esz l m p) {i : Nat} {x : C.α} (hx : l[i]? = some x) :
    ∀ (n j : Nat), j + n ≤ esz → ∃ vs, vs.length = n ∧ (∀ q v, vs[q]? = some v → w.cell? (p.at i (j + q)) = some v) ∧ VRs μ (gets C x j n) vs
  | 0, j, _ => ⟨[], rfl, by simp, .nil⟩
  | n + 1, j, h => by
    have hl := r.lens x (List.mem_of_getElem? hx)
    have hj : j < (C.enc x).length := by omega
    obtain ⟨v', h1, h2⟩ := r.cells i j x _ hx (List.getElem?_eq_getElem hj)
    obtain ⟨vs, k1, k2, k3⟩ := gets_sound (H := H) r hx n (j + 1) (by omega)
    refine ⟨v' :: vs, by simp [k1], ?_, ?_⟩
    · intro q v hq
      cases q with
      | zero => simp at hq; subst hq; exact h1
      | succ q => rw [show j + (q + 1) = j + 1 + q by omega]; exact k2 q v (by simpa using hq)
    · refine .cons ?_ k3
      rw [C.h_get x j _ (List.getElem?_eq_getElem hj)]
      exact h2

theorem nth_some {C : Codec} {l : List C.α} {i : Nat} (h : i < l.length) : l[i]? = some (nth C l i) := by
  unfold nth
  rw [List.getElem?_eq_getElem h]
  simp [List.getD, List.getElem?_eq_getElem h]

theorem at_add (p : Place) (i j n : Nat) : (p.at i j).add n = p.at i (j + n) := by
  unfold Addr.add Place.at
  split
  · simp_all
  · simp; omega

theorem allI_get {k : IntKind} : ∀ {l : List Value}, allI k l = true → ∀ {i : Nat}, i < l.length → l[i]? = some (.int k (pickI l i))
  | [], _, i, h => by simp at h
  | v :: r, h, i, hi => by
    cases v <;> simp only [allI] at h <;> first | cases h | skip
    simp only [Bool.and_eq_true, decide_eq_true_eq] at h
    obtain ⟨rfl, h2⟩ := h
    cases i with
    | zero => rfl
    | succ i => simpa [pickI] using allI_get h2 (i := i) (by simpa using hi)

theorem allS_get : ∀ {l : List Value}, allS l = true → ∀ {i : Nat}, i < l.length → l[i]? = some (.string (pickS l i))
  | [], _, i, h => by simp at h
  | v :: r, h, i, hi => by
    cases v <;> simp only [allS] at h <;> first | cases h | skip
    cases i with
    | zero => rfl
    | succ i => simpa [pickS] using allS_get h (i := i) (by simpa using hi)

theorem string_at {s : ByteArray} {i : Int} (h0 : 0 ≤ i) (h1 : i < (s.size : Int)) : ∃ b, s[i.toNat]? = some b ∧ ((b.toNat : Nat) : Int) = bt s i := by
  have hlt : i.toNat < s.size := by omega
  refine ⟨s[i.toNat], by simp [hlt], ?_⟩
  unfold bt
  have : s.data.toList.getD i.toNat 0 = s[i.toNat] := by
    have h2 : i.toNat < s.data.toList.length := by simpa using hlt
    simp only [List.getD, List.getElem?_eq_getElem h2, Option.getD_some]
    rfl
  rw [this]

theorem bounds_run (isS : Bool) (len cap : Nat) (lo hi : Option Value) {l h : Int} {k1 k2 : IntKind}
    (hl : (match lo with | some v => v | none => .int .i64 0) = Value.int k1 l) (hh : (match hi with | some v => v | none => .int .i64 (len : Int)) = Value.int k2 h)
    (h0 : 0 ≤ l) (h1 : l ≤ h) (h2 : h ≤ (cap : Int)) : (Instr.sliceBounds isS len cap lo hi none).run P w = .ok (l.toNat, h.toNat, cap) w := by
  have e1 : (match lo with | some v => Instr.sliceBound v h.toNat .sliceB | none => pure 0 : Sem Nat).run P w = .ok l.toNat w := by
    cases lo with
    | none => simp only [Value.int.injEq] at hl; obtain ⟨_, rfl⟩ := hl; rfl
    | some v =>
      simp only at hl
      subst hl
      have : l ≤ ((h.toNat : Nat) : Int) := by omega
      simp [Instr.sliceBound, asIntOf, h0]
      intro hc
      omega
  have e2 : (match hi with | some v => Instr.sliceBound v cap (if isS then .sliceAcap else .sliceAlen) | none => pure len : Sem Nat).run P w = .ok h.toNat w := by
    cases hi with
    | none => simp only [Value.int.injEq] at hh; obtain ⟨_, rfl⟩ := hh; simp
    | some v =>
      simp only at hh
      subst hh
      have : 0 ≤ h := by omega
      simp [Instr.sliceBound, asIntOf, this, h2]
  cases hi with
  | none =>
    cases lo with
    | none => simp only [Sem.run_pure, Result.ok.injEq, and_true] at e1 e2; simp [Instr.sliceBounds, ← e1, ← e2]
    | some v => simp only [Sem.run_pure, Result.ok.injEq, and_true] at e2; simp only [← e2] at e1; simp [Instr.sliceBounds, e1, ← e2]
  | some u =>
    cases lo with
    | none => simp only [Sem.run_pure, Result.ok.injEq, and_true] at e1; simp only at e2; simp [Instr.sliceBounds, ← e1, e2]
    | some v => simp only at e1 e2; simp [Instr.sliceBounds, e1, e2]

theorem gatherB_sound {C : Codec} {l : List C.α} {m : VMode} {p : Place} (r : RowOk μ w C 1 l m p) :
    ∀ (n i : Nat) (xs : List Int), gatherB C l i n = some xs → i + n ≤ l.length → xs.length = n ∧ ∀ q, q < n → w.cell? ⟨p.blk, p.base + i + q, none⟩ = some (.int .u8 (xs.getD q 0))
  | 0, i, xs, h, _ => by
    obtain rfl := Option.some.inj h
    exact ⟨rfl, fun q hq => absurd hq (Nat.not_lt_zero _)⟩
  | n + 1, i, xs, h, hl => by
    simp only [gatherB] at h
    split at h
    · rename_i x r' hx hr'
      obtain rfl := Option.some.inj h
      obtain ⟨k1, k2⟩ := gatherB_sound r n (i + 1) r' hr' (by omega)
      refine ⟨by simp [k1], fun q hq => ?_⟩
      cases q with
      | zero =>
        have hi : i < l.length := by omega
        have hlen := r.lens _ (List.mem_of_getElem? (nth_some hi))
        have h0 : 0 < (C.enc (nth C l i)).length := by omega
        obtain ⟨v', c1, c2⟩ := r.cells i 0 _ _ (nth_some hi) (List.getElem?_eq_getElem h0)
        rw [← C.h_get _ _ _ (List.getElem?_eq_getElem h0), hx] at c2
        cases c2
        have : p.at i 0 = ⟨p.blk, p.base + i + 0, none⟩ := by unfold Place.at; rw [r.pe]; simp
        rw [← this]
        simpa using c1
      | succ q =>
        have := k2 q (by omega)
        rw [show p.base + i + (q + 1) = p.base + (i + 1) + q by omega, this]
        simp
    · cases h

theorem fold_set (off : Nat) : ∀ (cs : List Value) (k : Nat) (l : List Value), off + k + cs.length ≤ l.length →
    ((cs.zipIdx k).foldl (fun (a : Array Value) (x : Value × Nat) => a.setIfInBounds (off + x.2) x.1) ⟨l⟩) = ⟨splice l (off + k) cs⟩
  | [], k, l, _ => by simp [splice]
  | c :: cs, k, l, h => by
    simp only [List.length_cons] at h
    rw [List.zipIdx_cons, List.foldl_cons]
    have hset : (⟨l⟩ : Array Value).setIfInBounds (off + k) c = ⟨l.set (off + k) c⟩ := by
      apply Array.toList_inj.1
      simp
    simp only [hset]
    rw [fold_set off cs (k + 1) (l.set (off + k) c) (by simp; omega)]
    congr 1
    unfold splice
    have hA : (l.take (off + k)).length = off + k := by simp; omega
    have hs : l.set (off + k) c = l.take (off + k) ++ c :: l.drop (off + k + 1) := by
      rw [List.set_eq_take_append_cons_drop, if_pos (by omega)]
    rw [hs]
    generalize l.take (off + k) = A at hA ⊢
    have h1 : (A ++ c :: l.drop (off + k + 1)).take (off + (k + 1)) = A ++ [c] := by
      rw [List.take_append, List.take_of_length_le (by omega), hA, show off + (k + 1) - (off + k) = 1 by omega]
      rfl
    have h2 : (A ++ c :: l.drop (off + k + 1)).drop (off + (k + 1) + cs.length) = l.drop (off + k + (c :: cs).length) := by
      rw [List.drop_append, List.drop_eq_nil_of_le (by omega), hA, show off + (k + 1) + cs.length - (off + k) = cs.length + 1 by omega]
      simp only [List.nil_append, List.drop_succ_cons, List.drop_drop, List.length_cons]
      congr 1
      omega
    rw [h1, h2]
    simp

theorem splice_len {l cs : List Value} {off : Nat} (h : off + cs.length ≤ l.length) : (splice l off cs).length = l.length := by
  simp [splice]
  omega

theorem VRs.splice {l l' cs cs' : List Value} {off : Nat} (h : VRs μ l l') (k : VRs μ cs cs') : VRs μ (splice l off cs) (splice l' off cs') := by
  unfold PM.splice
  rw [k.length]
  exact (h.take off).append (k.append (h.drop _))

theorem cellsOf_sound {v v' : Value} (h : VR μ v v') {cs : List Value} (hc : cellsOf v = some cs) : VRs μ cs v'.cells.toList := by
  have h0 := h
  cases h <;> simp only [cellsOf] at hc <;> first | cases hc | (obtain rfl := Option.some.inj hc)
  all_goals first
    | assumption
    | exact .cons h0 .nil

theorem fillV_sound {place : Nat → Option (Nat × Nat)} {ρ ρ' : Operand → Value} (hρ : ∀ x, VR μ (ρ x) (ρ' x)) : ∀ (ps : List (Nat × Operand)) (l l' r : List Value), VRs μ l l' → fillV place ρ l ps = some r →
    ∃ r', Instr.fill place ⟨l'⟩ (ps.map fun (i, x) => (i, ρ' x)) = some ⟨r'⟩ ∧ VRs μ r r'
  | [], l, l', r, hl, h => by
    obtain rfl := Option.some.inj h
    exact ⟨l', rfl, hl⟩
  | (i, x) :: ps, l, l', r, hl, h => by
    simp only [fillV] at h
    split at h
    · rename_i off n cs hp hcs
      cases hb : (Nat.beq cs.length n && Nat.ble (off + n) l.length) with
      | false => rw [hb] at h; cases h
      | true =>
        rw [hb] at h
        simp only [cond_true] at h
        simp only [Bool.and_eq_true, Nat.ble_eq] at hb
        obtain rfl := Nat.eq_of_beq_eq_true hb.1
        have hv := cellsOf_sound (hρ x) hcs
        obtain ⟨r', h1, h2⟩ := fillV_sound hρ ps _ _ r (hl.splice hv (off := off)) h
        refine ⟨r', ?_, h2⟩
        have hsz : (ρ' x).cells.size = cs.length := by rw [← Array.length_toList]; exact hv.length
        have hf := fold_set off (ρ' x).cells.toList 0 l' (by rw [Array.length_toList, hsz, hl.length]; omega)
        simp only [Nat.add_zero] at hf
        have hf2 : ((ρ' x).cells.zipIdx.foldl (fun cs (x : Value × Nat) => cs.setIfInBounds (off + x.2) x.1) (⟨l'⟩ : Array Value)) = ⟨PM.splice l' off (ρ' x).cells.toList⟩ := by
          rw [← hf, ← Array.foldl_toList, Array.toList_zipIdx]
        have hcond : ¬ ((ρ' x).cells.size ≠ cs.length ∨ off + (ρ' x).cells.size > (⟨l'⟩ : Array Value).size) := by
          rw [hsz]
          have : (⟨l'⟩ : Array Value).size = l.length := hl.length
          rw [this]
          omega
        simp only [List.map_cons, Instr.fill, hp]
        rw [if_neg (by simpa using hcond)]
        rw [hf2]
        exact h1
    · cases h

theorem zeroCells_some {t : TypeId} {zs : List Value} (h : zeroCells P t = some zs) : ∃ i z, P.info? t = some i ∧ i.zero = some z ∧ z.cells.toList = zs ∧ plainL zs = true := by
  unfold zeroCells at h
  split at h
  · rename_i i hi
    split at h
    · rename_i z hz
      cases hp : plainL z.cells.toList with
      | false => rw [hp] at h; cases h
      | true =>
        rw [hp] at h
        obtain rfl := Option.some.inj h
        exact ⟨i, z, hi, hz, rfl, hp⟩
    · cases h
  · cases h

theorem run_zero {t : TypeId} {zs : List Value} (h : zeroCells P t = some zs) : ∃ z, (zeroValue t).run P w = .ok z w ∧ z.cells = ⟨zs⟩ := by
  obtain ⟨i, z, hi, hz, hc, _⟩ := zeroCells_some h
  exact ⟨z, by simp [zeroValue, run_typeInfo w hi, hz], by apply Array.toList_inj.1; simpa using hc⟩

theorem places_run : ∀ (fs : List Field) (pl : List (Nat × Nat)), placesOf P fs = some pl → (fs.mapM (m := Sem) fun f => do pure (f.offset, ← sizeOf f.type)).run P w = .ok pl w
  | [], pl, h => by obtain rfl := Option.some.inj h; simp
  | f :: fs, pl, h => by
    simp only [placesOf] at h
    split at h
    · rename_i n l hn hl
      obtain rfl := Option.some.inj h
      rw [List.mapM_cons]
      simp only [Sem.run_bind, run_size hn, Result.andThen_ok, Sem.run_pure, places_run fs l hl]
    · cases h

theorem opV_sound (o : Oper) {ρ ρ' : Operand → Value} {H : VH} (hr : HR μ H w) (hρ : ∀ x, VR μ (ρ x) (ρ' x)) {c : Bool} {v : Value}
    (h : opV P ρ H o.op = some (c, v)) (hc : c = true) : ∃ v', (execOp ρ' o).run P w = .ok (.value v') w ∧ VR μ v v' := by
  obtain ⟨dst, op, type, pos, after, guard⟩ := o
  simp only at h
  subst hc
  have inv : ∀ {x : Operand} {u : Value}, ρ x = u → VR μ u (ρ' x) := fun hx => hx ▸ hρ _
  cases op
  case move x =>
    simp only [opV] at h
    obtain ⟨_, rfl⟩ := Prod.mk.inj (Option.some.inj h)
    exact ⟨_, by simp [execOp], hρ x⟩
  case assign x =>
    simp only [opV] at h
    obtain ⟨_, rfl⟩ := Prod.mk.inj (Option.some.inj h)
    exact ⟨_, by simp [execOp], hρ x⟩
  case pick c a b =>
    simp only [opV] at h
    split at h
    · rename_i t ht
      obtain ⟨_, rfl⟩ := Prod.mk.inj (Option.some.inj h)
      have hb := inv ht
      generalize hq : ρ' c = q at hb
      cases hb
      exact ⟨_, by simp [execOp, hq, asBool], pickV_sound t (hρ a) (hρ b)⟩
    · cases h
  case unOp op t x =>
    cases op
    case not =>
      simp only [opV] at h
      split at h
      · rename_i b hx
        obtain ⟨_, rfl⟩ := Prod.mk.inj (Option.some.inj h)
        have hb := inv hx
        generalize hq : ρ' x = q at hb
        cases hb
        exact ⟨.bool (!b), by simp [execOp, hq, Op.unary], .bool _⟩
      · cases h
    case neg =>
      simp only [opV] at h
      split at h
      · rename_i k n hx
        obtain ⟨_, rfl⟩ := Prod.mk.inj (Option.some.inj h)
        have hb := inv hx
        generalize hq : ρ' x = q at hb
        cases hb
        exact ⟨.int k (k.wrap (0 - n)), by simp only [execOp, hq, Op.unary, Op.intArith]; rfl, .int _ _⟩
      · cases h
    all_goals (simp only [opV] at h; first | done | cases h)
  case nilCheck x =>
    simp only [opV] at h
    split at h
    · rename_i a hx
      obtain ⟨_, rfl⟩ := Prod.mk.inj (Option.some.inj h)
      have hb := inv hx
      generalize hq : ρ' x = q at hb
      cases hb with
      | ptr hp => exact ⟨_, by simp [execOp, hq], .ptr hp⟩
    · cases h
  case extract x ix =>
    simp only [opV] at h
    split at h
    · rename_i vs hx
      split at h
      · rename_i u r hd
        obtain ⟨_, rfl⟩ := Prod.mk.inj (Option.some.inj h)
        have hb := inv hx
        generalize hq : ρ' x = q at hb
        cases hb with
        | tuple hl =>
          obtain ⟨v', h1, h2⟩ := hl.get (drop_head hd)
          refine ⟨v', ?_, h2⟩
          simp [execOp, hq, Instr.extract, h1]
      · cases h
    · cases h
  case convert src dst x =>
    simp only [opV] at h
    split at h
    · rename_i k1 k2 k3 n h1 h2 h3
      obtain ⟨_, rfl⟩ := Prod.mk.inj (Option.some.inj h)
      have hb := inv h3
      generalize hq : ρ' x = q at hb
      cases hb
      exact ⟨_, by simp [execOp, hq, convert, run_underlying h1, run_underlying h2, Conv.intToInt], .int _ _⟩
    · rename_i s h1 h2 h3
      obtain ⟨_, rfl⟩ := Prod.mk.inj (Option.some.inj h)
      have hb := inv h3
      generalize hq : ρ' x = q at hb
      cases hb
      exact ⟨_, by simp [execOp, hq, convert, run_underlying h1, run_underlying h2], .string _⟩
    · rename_i k1 k3 n h1 h2 h3
      obtain ⟨_, rfl⟩ := Prod.mk.inj (Option.some.inj h)
      have hb := inv h3
      generalize hq : ρ' x = q at hb
      cases hb
      exact ⟨_, by simp [execOp, hq, convert, run_underlying h1, run_underlying h2, Conv.intToString], .string _⟩
    · rename_i e b i0 n c h1 h2 h3
      split at h
      · rename_i C l m hue hg
        split at h
        · rename_i xs hxs
          obtain ⟨h4, rfl⟩ := Prod.mk.inj (Option.some.inj h)
          have h4 := Nat.le_of_ble_eq_true h4
          have hb := inv h3
          generalize hq : ρ' x = q at hb
          refine ⟨.string (strOfNums xs), ?_, .string _⟩
          cases hb with
          | slice hp hle hlim =>
            rename_i c' p
            obtain ⟨p', hp', r⟩ := hr.row _ _ _ _ _ hg
            obtain rfl : p' = p := Option.some.inj (hp'.symm.trans hp)
            obtain ⟨k1, k2⟩ := gatherB_sound r n i0 xs hxs h4
            have hat : p'.at i0 0 = ⟨p'.blk, p'.base + i0, none⟩ := by unfold Place.at; rw [r.pe]; simp
            have := run_convert_bytes_arg (P := P) w src e h1 hue p'.blk (p'.base + i0) n c' xs k1 k2 dst h2
            simp [execOp, hq, hat, this]
          | slice0 a =>
            obtain rfl : xs = [] := by simpa [gatherB] using hxs.symm
            have := run_convert_bytes_string (P := P) w src dst e (some a) 0 0 h1 hue h2
            have h5 := run_bytesToString (P := P) w a 0 0 [] (by simp [loadCells, loadCellsFrom])
            simp only [execOp, hq, Sem.run_bind, this, h5, Result.andThen_ok, Sem.run_pure]
            rfl
        · cases h
      · cases h
    · cases h
  case field t x f =>
    simp only [opV] at h
    split at h
    · rename_i fs cs h1 h2
      split at h
      · rename_i fd hf
        split at h
        · rename_i u hu
          obtain ⟨_, rfl⟩ := Prod.mk.inj (Option.some.inj h)
          have hb := inv h2
          generalize hq : ρ' x = q at hb
          cases hb with
          | agg hl =>
            obtain ⟨v', k1, k2⟩ := partV_sound (w := w) hl hu
            exact ⟨v', by simp [execOp, hq, Instr.field, run_underlying h1, hf, asAgg, k1], k2⟩
        · cases h
      · cases h
    · cases h
  case load t a =>
    simp only [opV] at h
    split at h
    · rename_i b i j ha
      have hb := inv ha
      generalize hq : ρ' a = q at hb
      cases hb with
      | ptr hp =>
        rename_i p
        split at h
        · rename_i C esz l m n hg hn hagg
          obtain ⟨h1, rfl⟩ := Prod.mk.inj (Option.some.inj h)
          simp only [Bool.and_eq_true, decide_eq_true_eq, Nat.ble_eq] at h1
          obtain ⟨p', hp', r⟩ := hr.row _ _ _ _ _ hg
          obtain rfl : p' = p := Option.some.inj (hp'.symm.trans hp)
          obtain ⟨vs, k1, k2, k3⟩ := gets_sound (H := H) r (nth_some h1.1) n j h1.2
          have hl : (loadCells (p'.at i j) n).run P w = .ok ⟨vs⟩ w := by
            have := run_loadCells_list (P := P) w (p'.at i j) vs (fun q v hq => by rw [at_add]; exact k2 q v hq)
            rw [k1] at this
            exact this
          refine ⟨.agg ⟨vs⟩, ?_, .agg k3⟩
          simp [execOp, hq, Instr.loadAt, Instr.sureAddr, loadVar, run_agg hagg, run_size hn, hl]
        · rename_i C esz l m n hg hn hagg
          obtain ⟨h1, rfl⟩ := Prod.mk.inj (Option.some.inj h)
          simp only [Bool.and_eq_true, decide_eq_true_eq, Nat.ble_eq] at h1
          obtain ⟨p', hp', r⟩ := hr.row _ _ _ _ _ hg
          obtain rfl : p' = p := Option.some.inj (hp'.symm.trans hp)
          obtain ⟨vs, k1, k2, k3⟩ := gets_sound (H := H) r (nth_some h1.1) 1 j h1.2
          obtain ⟨v', hv', hrel⟩ := k3.get (i := 0) (v := C.get (nth C l i) j) rfl
          refine ⟨v', ?_, hrel⟩
          have := k2 0 v' hv'
          simp only [Nat.add_zero] at this
          simp [execOp, hq, Instr.loadAt, Instr.sureAddr, loadVar, run_agg hagg, this]
        · cases h
    · cases h
  case slice t x lo hi mx =>
    cases mx with
    | some m => cases h
    | none =>
      simp only [opV] at h
      split at h
      · rename_i s h1 h2
        have hb := inv h2
        generalize hq : ρ' x = q at hb
        cases hb
        split at h
        · rename_i k1 l k2 hh hl0 hh0
          obtain ⟨h3, rfl⟩ := Prod.mk.inj (Option.some.inj h)
          simp only [Bool.and_eq_true, decide_eq_true_eq] at h3
          refine ⟨.string (s.extract l.toNat hh.toNat), ?_, .string _⟩
          have e1 : (match lo.map ρ' with | some v => v | none => .int .i64 0) = Value.int k1 l := by
            cases lo with
            | none => exact hl0
            | some o =>
              have := inv hl0
              simp only [Option.map_some]
              generalize ρ' o = q at this
              cases this
              rfl
          have e2 : (match hi.map ρ' with | some v => v | none => .int .i64 s.size) = Value.int k2 hh := by
            cases hi with
            | none => exact hh0
            | some o =>
              have := inv hh0
              simp only [Option.map_some]
              generalize ρ' o = q at this
              cases this
              rfl
          have := bounds_run (P := P) (w := w) false s.size s.size (lo.map ρ') (hi.map ρ') e1 e2 h3.1 h3.2.1 h3.2.2
          simp [execOp, hq, Instr.sliceAt, Instr.slice, run_underlying h1, this]
        · cases h
      · rename_i e b i0 n c h1 h2
        split at h
        · rename_i C esz lr m m2 k1 l k2 hh hg hsz hl0 hh0
          cases he : Nat.beq esz m2 with
          | false => rw [he] at h; cases h
          | true =>
            rw [he] at h
            simp only [cond_true] at h
            obtain rfl : esz = m2 := Nat.eq_of_beq_eq_true he
            obtain ⟨h3, rfl⟩ := Prod.mk.inj (Option.some.inj h)
            simp only [Bool.and_eq_true, decide_eq_true_eq] at h3
            have hb := inv h2
            generalize hq : ρ' x = q at hb
            have e1 : (match lo.map ρ' with | some v => v | none => .int .i64 0) = Value.int k1 l := by
              cases lo with
              | none => exact hl0
              | some o =>
                have := inv hl0
                simp only [Option.map_some]
                generalize ρ' o = q at this
                cases this
                rfl
            have e2 : (match hi.map ρ' with | some v => v | none => .int .i64 (n : Int)) = Value.int k2 hh := by
              cases hi with
              | none => exact hh0
              | some o =>
                have := inv hh0
                simp only [Option.map_some]
                generalize ρ' o = q at this
                cases this
                rfl
            cases hb with
            | slice hp hle hlim =>
              rename_i c' p
              obtain ⟨p', hp', r⟩ := hr.row _ _ _ _ _ hg
              obtain rfl : p' = p := Option.some.inj (hp'.symm.trans hp)
              have hb := bounds_run (P := P) (w := w) true n c' (lo.map ρ') (hi.map ρ') e1 e2 h3.1 h3.2.1 (by omega)
              have hrun : (execOp ρ' ⟨dst, .slice t x lo hi none, type, pos, after, guard⟩).run P w = .ok (.value (.slice (if c' = l.toNat then some (p'.at i0 0) else some ((p'.at i0 0).add (l.toNat * esz))) (hh.toNat - l.toNat) (c' - l.toNat))) w := by
                simp only [execOp, hq, Instr.sliceAt, Instr.slice, Option.map_none, Sem.run_bind, run_underlying h1, Result.andThen_ok, hb, run_size hsz, Sem.run_pure]
                split <;> rfl
              refine ⟨_, hrun, ?_⟩
              by_cases hcl : c' = l.toNat
              · rw [if_pos hcl]
                have z1 : hh.toNat - l.toNat = 0 := by omega
                have z2 : c' - l.toNat = 0 := by omega
                rw [z1, z2]
                exact .slice0 _
              · rw [if_neg hcl]
                have hadd : (p'.at i0 0).add (l.toNat * esz) = p'.at (i0 + l.toNat) 0 := by
                  rw [at_add]
                  unfold Place.at
                  rw [r.pe, Nat.add_mul]
                  simp [Nat.add_assoc]
                rw [hadd]
                refine .slice hp (by omega) (fun L hL => ?_)
                have := hlim L hL
                rwa [show i0 + l.toNat + (c' - l.toNat) = i0 + c' by omega]
            | slice0 a =>
              have hb := bounds_run (P := P) (w := w) true 0 0 (lo.map ρ') (hi.map ρ') e1 e2 h3.1 h3.2.1 (by simpa using h3.2.2)
              have z0 : l.toNat = 0 := by have := h3.2.2; simp at this; omega
              have z1 : hh.toNat = 0 := by have := h3.2.2; simp at this; omega
              have hrun : (execOp ρ' ⟨dst, .slice t x lo hi none, type, pos, after, guard⟩).run P w = .ok (.value (.slice (some a) 0 0)) w := by
                simp only [execOp, hq, Instr.sliceAt, Instr.slice, Option.map_none, Sem.run_bind, run_underlying h1, Result.andThen_ok, hb, run_size hsz, Sem.run_pure, z0, z1]
                rfl
              refine ⟨_, hrun, ?_⟩
              rw [z0, z1]
              exact .slice0 _
        · cases h
      · cases h
  case build t parts =>
    simp only [opV] at h
    split at h
    · rename_i zs fs hz hu
      split at h
      · rename_i pl hpl
        split at h
        · rename_i l hl
          obtain ⟨_, rfl⟩ := Prod.mk.inj (Option.some.inj h)
          obtain ⟨z, e1, e2⟩ := run_zero (w := w) hz
          obtain ⟨_, _, _, _, _, hp⟩ := zeroCells_some hz
          obtain ⟨r', e3, e4⟩ := fillV_sound (place := fun i => pl[i]?) hρ parts.toList zs zs l (VRs.plain hp) hl
          refine ⟨.agg ⟨r'⟩, ?_, .agg e4⟩
          have e5 := places_run (P := P) (w := w) fs.toList pl hpl
          have e6 : (fs.mapM (m := Sem) fun f => do pure (f.offset, ← sizeOf f.type)).run P w = .ok ⟨pl⟩ w := by
            have ee : fs = fs.toList.toArray := by simp
            rw [ee, List.mapM_toArray]
            simp only [Sem.run_map, e5, Result.andThen_ok]
          have e7 : (parts.map fun (i, x) => (i, ρ' x)).toList = parts.toList.map fun (i, x) => (i, ρ' x) := by simp
          have e8 : (fun i : Nat => (⟨pl⟩ : Array (Nat × Nat))[i]?) = fun i : Nat => pl[i]? := by funext i; simp
          simp only [execOp, Instr.build, Sem.run_bind, e1, Result.andThen_ok, run_underlying hu, e6, e2, e7, e8, e3, Sem.run_pure]
        · cases h
      · cases h
    · rename_i zs n e hz hu
      split at h
      · rename_i m hm
        split at h
        · rename_i l hl
          obtain ⟨_, rfl⟩ := Prod.mk.inj (Option.some.inj h)
          obtain ⟨z, e1, e2⟩ := run_zero (w := w) hz
          obtain ⟨_, _, _, _, _, hp⟩ := zeroCells_some hz
          obtain ⟨r', e3, e4⟩ := fillV_sound (place := fun i => some (i * m, m)) hρ parts.toList zs zs l (VRs.plain hp) hl
          refine ⟨.agg ⟨r'⟩, ?_, .agg e4⟩
          have e7 : (parts.map fun (i, x) => (i, ρ' x)).toList = parts.toList.map fun (i, x) => (i, ρ' x) := by simp
          simp only [execOp, Instr.build, Sem.run_bind, e1, Result.andThen_ok, run_underlying hu, run_size hm, e2, e7, e3, Sem.run_pure]
        · cases h
      · cases h
    · cases h
  case fieldAddr s x f =>
    simp only [opV] at h
    split at h
    · rename_i fs b i j h1 h2
      split at h
      · rename_i fd hf
        split at h
        · rename_i n hn
          obtain ⟨_, rfl⟩ := Prod.mk.inj (Option.some.inj h)
          have hb := inv h2
          generalize hq : ρ' x = q at hb
          cases hb with
          | ptr hp =>
            refine ⟨_, ?_, .ptr hp⟩
            simp [execOp, hq, Instr.fieldAt, run_underlying h1, hf, Instr.sureAddr, fieldPlace, run_size hn, at_add]
        · cases h
      · cases h
    · cases h
  case indexAddr t x ix =>
    simp only [opV] at h
    split at h
    · rename_i e b i0 n c k i h1 h2 h3
      split at h
      · rename_i C esz l m m2 hg hn
        cases he : Nat.beq esz m2 with
        | false => rw [he] at h; cases h
        | true =>
          rw [he] at h
          simp only [cond_true] at h
          obtain rfl : esz = m2 := Nat.eq_of_beq_eq_true he
          obtain ⟨h4, rfl⟩ := Prod.mk.inj (Option.some.inj h)
          simp only [inb, Bool.and_eq_true, decide_eq_true_eq] at h4
          have hb := inv h2
          have hi := inv h3
          generalize hq : ρ' x = q at hb
          generalize hq2 : ρ' ix = q2 at hi
          cases hi
          cases hb with
          | slice hp hle hlim =>
            rename_i p
            obtain ⟨p', hp', r⟩ := hr.row _ _ _ _ _ hg
            obtain rfl : p' = p := Option.some.inj (hp'.symm.trans hp)
            refine ⟨_, ?_, .ptr hp⟩
            have hadd : (p'.at i0 0).add (i.toNat * esz) = p'.at (i0 + i.toNat) 0 := by
              rw [at_add]
              unfold Place.at
              rw [r.pe, Nat.add_mul]
              simp [Nat.add_assoc]
            simp [execOp, hq, hq2, Instr.indexAt, run_underlying h1, asIntOf, h4, run_size hn, hadd]
          | slice0 a => exact absurd h4 (by simp)
      · cases h
    · rename_i len e b i0 j k i h1 h2 h3
      split at h
      · rename_i m hn
        obtain ⟨h4, rfl⟩ := Prod.mk.inj (Option.some.inj h)
        simp only [inb, Bool.and_eq_true, decide_eq_true_eq] at h4
        have hb := inv h2
        have hi := inv h3
        generalize hq : ρ' x = q at hb
        generalize hq2 : ρ' ix = q2 at hi
        cases hi
        cases hb with
        | ptr hp =>
          rename_i p
          refine ⟨_, ?_, .ptr hp⟩
          have hadd : (p.at i0 j).add (i.toNat * m) = p.at i0 (addN j (mulN i.toNat m)) := by
            rw [at_add]
            have e1 : mulN i.toNat m = i.toNat * m := by unfold mulN; split <;> simp
            have e2 : addN j (i.toNat * m) = j + i.toNat * m := by unfold addN; split <;> simp
            rw [e1, e2]
          simp [execOp, hq, hq2, Instr.indexAt, run_underlying h1, asIntOf, Instr.sureAddr, h4, run_size hn, hadd]
      · cases h
    · cases h
  case index t x ix =>
    simp only [opV] at h
    split at h
    · rename_i s k i h1 h2 h3
      obtain ⟨h4, rfl⟩ := Prod.mk.inj (Option.some.inj h)
      simp only [inb, Bool.and_eq_true, decide_eq_true_eq] at h4
      have hb := inv h2
      have hi := inv h3
      generalize hq : ρ' x = q at hb
      generalize hq2 : ρ' ix = q2 at hi
      cases hi; cases hb
      obtain ⟨b, e1, e2⟩ := string_at h4.1 h4.2
      refine ⟨_, ?_, .int _ _⟩
      simp [execOp, hq, hq2, Instr.index, run_underlying h1, asIntOf, h4.1, e1, e2]
    · rename_i len e cs k i h1 h2 h3
      have hb := inv h2
      have hi := inv h3
      generalize hq : ρ' x = q at hb
      generalize hq2 : ρ' ix = q2 at hi
      cases hi
      cases hb with
      | agg hl =>
        rename_i cl cl'
        split at h
        · rename_i k' hs hu
          cases hall : (allI k' cl && Nat.beq cl.length len) with
          | false => rw [hall] at h; cases h
          | true =>
            rw [hall] at h
            simp only [cond_true] at h
            obtain ⟨h4, rfl⟩ := Prod.mk.inj (Option.some.inj h)
            simp only [inb, Bool.and_eq_true, decide_eq_true_eq] at h4
            simp only [Bool.and_eq_true] at hall
            have hlen : cl.length = len := Nat.eq_of_beq_eq_true hall.2
            have hlt : i.toNat < cl.length := by omega
            obtain ⟨v', e1, e2⟩ := hl.get (allI_get hall.1 hlt)
            cases e2
            refine ⟨_, ?_, .int _ _⟩
            have hagg : aggT P e = some false := by simp [aggT, hu]
            simp [execOp, hq, hq2, Instr.index, run_underlying h1, asIntOf, h4.1, h4.2, part, run_agg hagg, run_size hs, e1]
        · rename_i hs hu
          cases hall : (allS cl && Nat.beq cl.length len) with
          | false => rw [hall] at h; cases h
          | true =>
            rw [hall] at h
            simp only [cond_true] at h
            obtain ⟨h4, rfl⟩ := Prod.mk.inj (Option.some.inj h)
            simp only [inb, Bool.and_eq_true, decide_eq_true_eq] at h4
            simp only [Bool.and_eq_true] at hall
            have hlen : cl.length = len := Nat.eq_of_beq_eq_true hall.2
            have hlt : i.toNat < cl.length := by omega
            obtain ⟨v', e1, e2⟩ := hl.get (allS_get hall.1 hlt)
            cases e2
            refine ⟨_, ?_, .string _⟩
            have hagg : aggT P e = some false := by simp [aggT, hu]
            simp [execOp, hq, hq2, Instr.index, run_underlying h1, asIntOf, h4.1, h4.2, part, run_agg hagg, run_size hs, e1]
        · cases h
    · cases h
  case call c =>
    obtain ⟨callee, args, argTypes⟩ := c
    cases callee
    case value f => cases h
    case invoke r m => cases h
    case builtin b =>
      cases b
      case len =>
        simp only [opV] at h
        split at h
        · rename_i x t ha hat
          obtain rfl : args = #[x] := by apply Array.toList_inj.1; simpa using ha
          obtain rfl : argTypes = #[t] := by apply Array.toList_inj.1; simpa using hat
          split at h
          · rename_i s hu hx
            obtain ⟨_, rfl⟩ := Prod.mk.inj (Option.some.inj h)
            have hb := inv hx
            generalize hq : ρ' x = q at hb
            cases hb
            exact ⟨_, by simp [execOp, resolve, invoke, builtin, Builtin.len_, hq, run_underlying hu, goInt], .int _ _⟩
          · rename_i e a n c hu hx
            obtain ⟨_, rfl⟩ := Prod.mk.inj (Option.some.inj h)
            have hb := inv hx
            generalize hq : ρ' x = q at hb
            refine ⟨.int .i64 n, ?_, .int _ _⟩
            cases hb <;> simp [execOp, resolve, invoke, builtin, Builtin.len_, hq, run_underlying hu, goInt]
          · cases h
        · cases h
      all_goals cases h
  case binOp op t x y yt =>
    have hx0 := hρ x
    have hy0 := hρ y
    simp only [opV] at h
    generalize hq1 : ρ' x = qx at hx0
    generalize hq2 : ρ' y = qy at hy0
    have run_of : ∀ {u : Value}, (eqGuard op t x y qx qy).run P w = .ok () w → (Go.binOp op t qx qy).run P w = .ok u w →
        (execOp ρ' ⟨dst, .binOp op t x y yt, type, pos, after, guard⟩).run P w = .ok (.value u) w := fun h1 h2 => by
      simp [execOp, hq1, hq2, h1, h2]
    split at h
    · rename_i k a k' b hx hy
      rw [hx] at hx0; rw [hy] at hy0
      cases hx0; cases hy0
      obtain ⟨e1, e2⟩ := shI_sound (P := P) (μ := μ) (w := w) (k' := k') h rfl t
      exact ⟨v, run_of (guard_scalar _ _ _ _ (by intro l hh; cases hh) (by intro hh; cases hh)) e1, e2⟩
    · rename_i k a k' b hx hy
      rw [hx] at hx0; rw [hy] at hy0
      cases hx0; cases hy0
      obtain ⟨e1, e2⟩ := shI_sound (P := P) (μ := μ) (w := w) (k' := k') h rfl t
      exact ⟨v, run_of (guard_scalar _ _ _ _ (by intro l hh; cases hh) (by intro hh; cases hh)) e1, e2⟩
    · rename_i op' k a k' b hn1 hn2 hx hy
      rw [hx] at hx0; rw [hy] at hy0
      cases hx0; cases hy0
      cases hk : decide (k = k') with
      | false => rw [hk] at h; cases h
      | true =>
        rw [hk] at h
        obtain rfl := of_decide_eq_true hk
        obtain ⟨e1, e2⟩ := binI_sound (P := P) (μ := μ) (w := w) h rfl t
        exact ⟨v, run_of (guard_scalar _ _ _ _ (by intro l hh; cases hh) (by intro hh; cases hh)) e1, e2⟩
    · rename_i op' a b hx hy
      rw [hx] at hx0; rw [hy] at hy0
      cases hx0; cases hy0
      obtain ⟨e1, e2⟩ := binS_sound (P := P) (μ := μ) (w := w) h rfl t
      exact ⟨v, run_of (guard_scalar _ _ _ _ (by intro l hh; cases hh) (by intro hh; cases hh)) e1, e2⟩
    · rename_i a b hx hy
      rw [hx] at hx0; rw [hy] at hy0
      cases hx0; cases hy0
      split at h
      · rename_i hu
        obtain ⟨_, rfl⟩ := Prod.mk.inj (Option.some.inj h)
        exact ⟨_, run_of (guard_scalar _ _ _ _ (by intro l hh; cases hh) (by intro hh; cases hh)) (run_boolEq hu a b).1, .bool _⟩
      · cases h
    · rename_i a b hx hy
      rw [hx] at hx0; rw [hy] at hy0
      cases hx0; cases hy0
      split at h
      · rename_i hu
        obtain ⟨_, rfl⟩ := Prod.mk.inj (Option.some.inj h)
        exact ⟨_, run_of (guard_scalar _ _ _ _ (by intro l hh; cases hh) (by intro hh; cases hh)) (run_boolEq hu a b).2, .bool _⟩
      · cases h
    · rename_i a b hx hy
      rw [hx] at hx0; rw [hy] at hy0
      cases hgt : P.eqGuardType P.depth t with
      | true => rw [hgt] at h; cases h
      | false =>
        rw [hgt] at h
        simp only [cond_false] at h
        split at h
        · rename_i r hr'
          obtain ⟨_, rfl⟩ := Prod.mk.inj (Option.some.inj h)
          cases hx0 with
          | agg hl =>
            cases hy0 with
            | agg hl' =>
              have := eqT_sound (P := P) (w := w) 6 9994 t _ _ _ _ r (.agg hl) (.agg hl') hr'
              refine ⟨.bool r, run_of (run_eqGuard_agg w _ _ _ _ _ _ hgt) ?_, .bool _⟩
              rw [run_eql_struct]
              simp [this]
        · cases h
    · rename_i a b hx hy
      rw [hx] at hx0; rw [hy] at hy0
      cases hgt : P.eqGuardType P.depth t with
      | true => rw [hgt] at h; cases h
      | false =>
        rw [hgt] at h
        simp only [cond_false] at h
        split at h
        · rename_i r hr'
          obtain ⟨_, rfl⟩ := Prod.mk.inj (Option.some.inj h)
          cases hx0 with
          | agg hl =>
            cases hy0 with
            | agg hl' =>
              have := eqT_sound (P := P) (w := w) 6 9994 t _ _ _ _ r (.agg hl) (.agg hl') hr'
              refine ⟨.bool (!r), run_of (run_eqGuard_agg w _ _ _ _ _ _ hgt) ?_, .bool _⟩
              rw [run_neq_struct]
              simp [this]
        · cases h
    · cases h
  all_goals (simp only [opV] at h; first | done | cases h)
end
end Go.Proofs.YtofcjkbgieenlaaDoor.PM
