/-
  paths.Clean: the call comes to cleanOf. By an AI agent.
-/
import Derived.Test.YtoklancgpmnhcaaDoorSplitSeq
import Derived.Test.YtoklancgpmnhcaaDoorOwnC
import Derived.Test.YtoklancgpmnhcaaDoorCleanL
import Derived.Maps.AppendAt
import Derived.Outline
namespace Go.Proofs.YtoklancgpmnhcaaDoor.Hand
open Go.RowKit Go.Shelf
attribute [local go_sem] Oper.semAt_some

theorem info9' : (Tryd.prog.info? 9).map (fun i => (i.zero, i.size, i.bytes)) = some (some (.string ⟨#[]⟩), 1, 16) := by kernel_rfl

/-- Between two rounds. -/
def CleanInv (w : World) (pre : List ByteArray) (W : World) : Prop :=
  (∃ l v, cleanAll pre = some l ∧ Boxed W (w.heap.size + 2) 35 v ∧ OwnsC W (w.heap.size + 6) 9 v (l.map Value.string) ∧ Boxed W w.heap.size 9 (.string ⟨#[]⟩) ∧ Boxed W (w.heap.size + 1) 25 (.int .i64 0)) ∧ Below w.heap.size w W ∧ w.heap.size + 6 ≤ W.heap.size
/-- A round has left by 'return'. -/
def CleanOut (w : World) (c : Code) (pre : List ByteArray) (W : World) : Prop :=
  (c = .ret ∧ cleanAll pre = none ∧ Boxed W w.heap.size 9 (.string ⟨#[]⟩) ∧ Boxed W (w.heap.size + 1) 25 (.int .i64 71)) ∧ Below w.heap.size w W

theorem boxed_keep {B t : Nat} {v : Value} {A A' : World} {row : Option Nat} (h : Boxed A B t v) (hg : A.grownBy A' row) (hr : ∀ r, row = some r → ∃ o : Obj, A.heap[r]? = some o ∧ o.isCells = false) : Boxed A' B t v :=
  h.kept hg fun e => by
    obtain ⟨o, ho, hc⟩ := hr B e.symm
    rw [show A.heap[B]? = _ from h] at ho; cases ho; cases hc
theorem ownsC_keep {base e : Nat} {v : Value} {xs : List Value} {A A' : World} {row : Option Nat} (h : OwnsC A base e v xs) (hg : A.grownBy A' row) (hr : ∀ r, row = some r → ∃ o : Obj, A.heap[r]? = some o ∧ o.isCells = false) : OwnsC A' base e v xs := by
  refine h.kept hg ?_
  cases hv : v.ownBlock with
  | none => exact .inl rfl
  | some k =>
    refine .inr fun e => ?_
    obtain ⟨o, ho, hc⟩ := hr k e.symm
    obtain ⟨_, cur, hh⟩ := h.block k hv
    rw [hh] at ho; cases ho; cases hc
theorem CleanInv.ownFrom (w : World) (B : Nat) (hB : w.heap.size ≤ B) : OwnFrom B (CleanInv w) := by
  rintro pre A A' row ⟨⟨l, v, h1, h2, h3, h4, h5⟩, hb, hz⟩ hg hr
  have hr' : ∀ r, row = some r → ∃ o : Obj, A.heap[r]? = some o ∧ o.isCells = false := fun r e => (hr r e).2
  exact ⟨⟨l, v, h1, boxed_keep h2 hg hr', ownsC_keep h3 hg hr', boxed_keep h4 hg hr', boxed_keep h5 hg hr'⟩, hb.grown hg hb.size (fun k e => by have := (hr k e).1; omega), Nat.le_trans hz hg.size⟩
theorem CleanOut.ownFrom (w : World) (B : Nat) (hB : w.heap.size ≤ B) (c : Code) : OwnFrom B (CleanOut w c) := by
  rintro pre A A' row ⟨⟨h1, h2, h3, h4⟩, hb⟩ hg hr
  have hr' : ∀ r, row = some r → ∃ o : Obj, A.heap[r]? = some o ∧ o.isCells = false := fun r e => (hr r e).2
  exact ⟨⟨h1, h2, boxed_keep h3 hg hr', boxed_keep h4 hg hr'⟩, hb.grown hg hb.size (fun k e => by have := (hr k e).1; omega)⟩
theorem boxed_step {k t B m : Nat} {v : Value} {A A' : World} (h : Boxed A k t v) (hb : BoxStep B m A A') (hk : k < B) : Boxed A' k t v := (hb.others k (by omega)).trans h
theorem ownsC_step {base e B m : Nat} {v : Value} {xs : List Value} {A A' : World} (h : OwnsC A base e v xs) (hb : BoxStep B m A A') (hk : B + m ≤ base) : OwnsC A' base e v xs := by
  rcases h with h | ⟨g, cap, cur, rfl, h0, hh, h1⟩
  · exact .inl h
  · exact .inr ⟨g, cap, cur, rfl, h0, (hb.others g (by omega)).trans hh, h1⟩
theorem below_step {n0 B m : Nat} {w A A' : World} (h : Below n0 w A) (hb : BoxStep B m A A') (hk : n0 ≤ B) : Below n0 w A' :=
  ⟨hb.os.trans h.os, hb.tape.trans h.tape, hb.output.trans h.output, by rw [hb.size]; exact h.size, fun k hlt => (hb.others k (by omega)).trans (h.block k hlt)⟩
theorem CleanInv.step {w A A' : World} {pre : List ByteArray} (h : CleanInv w pre A) (hb : BoxStep (w.heap.size + 3) 3 A A') : CleanInv w pre A' := by
  obtain ⟨⟨l, v, h1, h2, h3, h4, h5⟩, h6, h7⟩ := h
  exact ⟨⟨l, v, h1, boxed_step h2 hb (by omega), ownsC_step h3 hb (by omega), boxed_step h4 hb (by omega), boxed_step h5 hb (by omega)⟩, below_step h6 hb (by omega), by rw [hb.size]; exact h7⟩
theorem CleanOut.step {w A A' : World} {c : Code} {pre : List ByteArray} (h : CleanOut w c pre A) (hb : BoxStep (w.heap.size + 3) 3 A A') : CleanOut w c pre A' := by
  obtain ⟨⟨h1, h2, h3, h4⟩, h6⟩ := h
  exact ⟨⟨h1, h2, boxed_step h3 hb (by omega), boxed_step h4 hb (by omega)⟩, below_step h6 hb (by omega)⟩

theorem boxed_other {W : World} {B B' t : Nat} {v u : Value} (h : Boxed W B t v) (hne : B ≠ B') : Boxed (W.setCell ⟨B', 0, none⟩ u) B t v := h.kept (grownBy_setCell' W B' u) (by simp; omega)
theorem clean_out {w W : World} {pre : List ByteArray} {S : Nat} (hn : cleanAll pre = none) (h4 : Boxed W w.heap.size 9 (.string ⟨#[]⟩)) (h5 : Boxed W (w.heap.size + 1) 25 (.int .i64 0)) (hb : Below w.heap.size w W) :
    KeepsFrom S W ((W.setCell ⟨w.heap.size, 0, none⟩ (.string ⟨#[]⟩)).setCell ⟨w.heap.size + 1, 0, none⟩ (.int .i64 71)) ∧
      CleanOut w .ret pre ((W.setCell ⟨w.heap.size, 0, none⟩ (.string ⟨#[]⟩)).setCell ⟨w.heap.size + 1, 0, none⟩ (.int .i64 71)) :=
  ⟨((KeepsOthers.setCell _ _ _).trans (KeepsOthers.setCell _ _ _)).from _, ⟨rfl, hn, boxed_other (h4.set _) (by omega), (boxed_other h5 (by omega)).set _⟩,
    (hb.setCell (p := ⟨w.heap.size, 0, none⟩) (Nat.le_refl _) _).setCell (p := ⟨w.heap.size + 1, 0, none⟩) (by simp) _⟩
theorem setCell_block (W : World) (b k : Nat) (v : Value) (h : k ≠ b) : (W.setCell ⟨b, 0, none⟩ v).heap[k]? = W.heap[k]? := by
  simp only [World.setCell, Array.getElem?_modify]
  rw [if_neg (by simpa using fun e => h e.symm)]
theorem clean_cut {w W : World} {pre : List ByteArray} {S g m cap n : Nat} {xs : List ByteArray} (hs : cleanAll pre = some (xs.take n)) (h2 : Boxed W (w.heap.size + 2) 35 (.slice (some ⟨g, 0, none⟩) m cap)) (h3 : OwnsC W (w.heap.size + 6) 9 (.slice (some ⟨g, 0, none⟩) m cap) (xs.map Value.string))
    (h4 : Boxed W w.heap.size 9 (.string ⟨#[]⟩)) (h5 : Boxed W (w.heap.size + 1) 25 (.int .i64 0)) (hb : Below w.heap.size w W) (hz : w.heap.size + 6 ≤ W.heap.size) (hn : n ≤ xs.length) :
    KeepsFrom S W (W.setCell ⟨w.heap.size + 2, 0, none⟩ (.slice (some ⟨g, 0, none⟩) n n)) ∧ BoxKept (w.heap.size + 3) 3 W (W.setCell ⟨w.heap.size + 2, 0, none⟩ (.slice (some ⟨g, 0, none⟩) n n)) ∧
      CleanInv w pre (W.setCell ⟨w.heap.size + 2, 0, none⟩ (.slice (some ⟨g, 0, none⟩) n n)) := by
  have h3' := h3.cut n (by simpa using hn)
  rw [← List.map_take] at h3'
  refine ⟨(KeepsOthers.setCell _ _ _).from _, fun k k1 k2 => setCell_block W _ k _ (by omega), ⟨_, _, hs, h2.set _, ?_, boxed_other h4 (by omega), boxed_other h5 (by omega)⟩, hb.setCell (p := ⟨w.heap.size + 2, 0, none⟩) (by simp) _, by simpa using hz⟩
  refine h3'.kept (grownBy_setCell' W (w.heap.size + 2) _) (.inr ?_)
  intro e
  have := (h3'.block g rfl).1
  simp [Value.ownBlock] at e
  omega

theorem clean_push {w W w1 : World} {v v' : Value} {xs : List ByteArray} {x : ByteArray} {tmp : Obj} (h2 : Boxed W (w.heap.size + 2) 35 v) (h3 : OwnsC W (w.heap.size + 6) 9 v (xs.map Value.string))
    (h4 : Boxed W w.heap.size 9 (.string ⟨#[]⟩)) (h5 : Boxed W (w.heap.size + 1) 25 (.int .i64 0)) (hb : Below w.heap.size w W) (hz : w.heap.size + 6 ≤ W.heap.size)
    (hown : OwnsC w1 (w.heap.size + 6) 9 v' (xs.map Value.string ++ [.string x])) (hg : (W.alloc tmp).grownBy w1 v.ownBlock) :
    Boxed w1 (w.heap.size + 2) 35 v ∧ ∀ S pre, cleanAll pre = some (xs ++ [x]) →
      KeepsFrom S W (w1.setCell ⟨w.heap.size + 2, 0, none⟩ v') ∧ BoxKept (w.heap.size + 3) 3 W (w1.setCell ⟨w.heap.size + 2, 0, none⟩ v') ∧ CleanInv w pre (w1.setCell ⟨w.heap.size + 2, 0, none⟩ v') := by
  have hk : ∀ k, v.ownBlock = some k → w.heap.size + 6 ≤ k := fun k e => (h3.block k e).1
  have ne : ∀ k, k < w.heap.size + 6 → some k ≠ v.ownBlock := fun k h e => by have := hk k e.symm; omega
  have q2 := (h2.alloc tmp).kept hg (ne _ (by omega))
  have q4 := (h4.alloc tmp).kept hg (ne _ (by omega))
  have q5 := (h5.alloc tmp).kept hg (ne _ (by omega))
  refine ⟨q2, fun S pre hs => ⟨?_, ?_, ⟨_, v', hs, q2.set _, ?_, boxed_other q4 (by omega), boxed_other q5 (by omega)⟩, ?_⟩⟩
  · refine (((KeepsOthers.alloc W tmp).trans (KeepsOthers.of_grownBy hg fun j o ej hj => ?_)).trans (KeepsOthers.setCell _ _ _)).from _
    obtain ⟨_, cur, hh⟩ := (h3.alloc tmp).block j ej
    rw [hh] at hj; cases hj; rfl
  · intro k k1 k2
    refine (setCell_block w1 _ k _ (by omega)).trans ?_
    exact (hg.block k (by simp; omega) (ne k (by omega))).trans (Below.heap_alloc _ _ _ (by omega))
  · rw [List.map_append]
    refine hown.kept (grownBy_setCell' w1 (w.heap.size + 2) _) (.inr fun e => ?_)
    have := (hown.block _ e).1
    omega
  · refine ⟨(((hb.alloc hb.size tmp).grown hg (by simp; have := hb.size; omega) fun j ej => ?_)).setCell (p := ⟨w.heap.size + 2, 0, none⟩) (by simp) _, ?_⟩
    · have := hk j ej
      omega
    · have := hg.size
      simp at this ⊢
      omega

set_option maxHeartbeats 4000000 in
set_option maxRecDepth 100000 in
theorem Clean_in (p : ByteArray) (hp : p.size ≤ 1000000) (w : World) :
    CallsIn Fence.wide 5 Tryd.prog 9 #[.string p] w fun e w' => e = .returned (.tuple #[.string (cleanOf p).1, .int .i64 (cleanOf p).2]) ∧ Below w.heap.size w w' := by
  obtain ⟨i0, hi, hz0, hz1, hz2⟩ := info_parts info9'
  refine callsIn_of_wp_marks Tryd.func9 rfl trivial ?_ rfl
  simp only [Tryd.ntmps9, List.size_toArray, List.length_cons, List.length_nil, Nat.reduceAdd, Nat.reduceSub, Array.replicate_succ, Array.replicate_zero, List.push_toArray, List.append_toArray, List.nil_append, List.cons_append]
  gi_wp2_with (refine ⟨trivial, ?_⟩; (with_reducible refine (callsIn_wide.2 (SplitSeq_calls p ⟨#[47]⟩ _)).mono ?_); rintro e w' ⟨rfl, rfl⟩)
  have b0 := (((((Boxed.new w 9 (.string ⟨#[]⟩)).alloc (.cells #[.int .i64 0] 25)).alloc (.cells #[.slice none 0 0] 35)).alloc (.cells #[.string p] 9)).alloc (.cells #[.string ⟨#[47]⟩] 9)).alloc (.cells #[.int .i64 0] 3)
  have b1 := ((((Boxed.new (w.alloc (.cells #[.string ⟨#[]⟩] 9)) 25 (.int .i64 0)).alloc (.cells #[.slice none 0 0] 35)).alloc (.cells #[.string p] 9)).alloc (.cells #[.string ⟨#[47]⟩] 9)).alloc (.cells #[.int .i64 0] 3)
  have b2 := (((Boxed.new ((w.alloc (.cells #[.string ⟨#[]⟩] 9)).alloc (.cells #[.int .i64 0] 25)) 35 (.slice none 0 0)).alloc (.cells #[.string p] 9)).alloc (.cells #[.string ⟨#[47]⟩] 9)).alloc (.cells #[.int .i64 0] 3)
  have b3 := ((Boxed.new (((w.alloc (.cells #[.string ⟨#[]⟩] 9)).alloc (.cells #[.int .i64 0] 25)).alloc (.cells #[.slice none 0 0] 35)) 9 (.string p)).alloc (.cells #[.string ⟨#[47]⟩] 9)).alloc (.cells #[.int .i64 0] 3)
  have b4 := (Boxed.new ((((w.alloc (.cells #[.string ⟨#[]⟩] 9)).alloc (.cells #[.int .i64 0] 25)).alloc (.cells #[.slice none 0 0] 35)).alloc (.cells #[.string p] 9)) 9 (.string ⟨#[47]⟩)).alloc (.cells #[.int .i64 0] 3)
  have b5 := Boxed.new (((((w.alloc (.cells #[.string ⟨#[]⟩] 9)).alloc (.cells #[.int .i64 0] 25)).alloc (.cells #[.slice none 0 0] 35)).alloc (.cells #[.string p] 9)).alloc (.cells #[.string ⟨#[47]⟩] 9)) 3 (.int .i64 0)
  have hB : Below w.heap.size w ((((((w.alloc (.cells #[.string ⟨#[]⟩] 9)).alloc (.cells #[.int .i64 0] 25)).alloc (.cells #[.slice none 0 0] 35)).alloc (.cells #[.string p] 9)).alloc (.cells #[.string ⟨#[47]⟩] 9)).alloc (.cells #[.int .i64 0] 3)) :=
    (((((Below.refl _ w).alloc (Nat.le_refl _) _).alloc (by simp) _).alloc (by simp; omega) _).alloc (by simp; omega) _).alloc (by simp; omega) _ |>.alloc (by simp; omega) _
  generalize hW : ((((((w.alloc (.cells #[.string ⟨#[]⟩] 9)).alloc (.cells #[.int .i64 0] 25)).alloc (.cells #[.slice none 0 0] 35)).alloc (.cells #[.string p] 9)).alloc (.cells #[.string ⟨#[47]⟩] 9)).alloc (.cells #[.int .i64 0] 3)) = W6 at *
  have hsz : W6.heap.size = w.heap.size + 6 := by rw [← hW]; simp
  clear hW
  simp only [World.size_alloc, Nat.add_assoc, Nat.reduceAdd] at b0 b1 b2 b3 b4 b5 ⊢
  refine wpIn_rangeFunc_box rfl (by omega) (gf := 39) (lb := #[.pointer (some ⟨w.heap.size + 4, 0, none⟩), .pointer (some ⟨w.heap.size + 3, 0, none⟩), .pointer (some ⟨w.heap.size + 5, 0, none⟩)]) rfl trivial (enters_of Tryd.func39 (by kernel_rfl) rfl)
    (splitSeq1_seq 4 (w.heap.size + 3) (by omega) 47 p (by omega) W6 ⟨b3, b4, b5⟩) (by omega) (fun _ => rfl)
    (CleanInv w) (CleanOut w) (CleanInv.ownFrom w _ (by omega)) (CleanOut.ownFrom w _ (by omega)) (fun _ _ _ h hb => h.step hb) (fun _ _ _ _ h hb => h.step hb)
    ⟨⟨[], _, rfl, b2, OwnsC.nil _ _ _, b0, b1⟩, hB, by omega⟩
    (fun x => { tmps := #[Value.string p, undef, Value.pointer (some { block := w.heap.size, off := 0 }), Value.pointer (some { block := w.heap.size + 1, off := 0 }), Value.pointer (some { block := w.heap.size + 2, off := 0 }), .string x, undef, undef, Value.string p,
      Value.func (Fn.func 39) #[] #[Value.pointer (some { block := w.heap.size + 4, off := 0 }), Value.pointer (some { block := w.heap.size + 3, off := 0 }), Value.pointer (some { block := w.heap.size + 5, off := 0 })],
      .string x, undef, undef, undef, undef, undef, undef, undef, undef, undef, undef, undef, undef, undef, undef, undef, undef, undef, undef, undef, undef, undef, undef, undef, undef, undef, undef, undef, undef, undef, undef, undef], defers := [] }) ?assign ?body ?done ?stop
  case assign =>
    intro l x W K hK
    gi_wp2
    exact hK
  case body =>
    rintro l pre x W ⟨⟨xs, v, h1, h2, h3, h4, h5⟩, hb, hz⟩ hpx
    have hlen : xs.length ≤ 1000001 := by
      have k1 := (cleanAll_spec _ _ h1).1
      have k2 := hpx.length_le
      have k3 := splitB_length 47 p.data.toList
      have k4 : p.data.toList.length = p.size := Array.length_toList ..
      simp [splitS] at k2
      omega
    have hstep : cleanAll (pre ++ [x]) = cleanStep xs x := by rw [cleanAll_snoc, h1]; rfl
    have Hstep := Lib.hid hstep
    clear hstep
    have c2 := h2.cell
    have f2 := h2.frozen
    by_cases e0 : x.toList = []
    · have e0' : (x.toList == []) = true := by simp [e0]
      have hs : cleanStep xs x = some xs := by simp [cleanStep, e0]
      have Hs := Lib.hid hs
      clear hs e0
      gi_wp2
      exact ⟨KeepsFrom.refl _ _, BoxKept.refl _ _ _, ⟨xs, v, Hstep.out.trans Hs.out, h2, h3, h4, h5⟩, hb, hz⟩
    have e0' : (x.toList == []) = false := by simpa using e0
    by_cases e1 : x.toList = [46]
    · have e1' : (x.toList == [46]) = true := by simp [e1]
      have hs : cleanStep xs x = some xs := by simp [cleanStep, e1]
      have Hs := Lib.hid hs
      clear hs e0 e1
      gi_wp2
      exact ⟨KeepsFrom.refl _ _, BoxKept.refl _ _ _, ⟨xs, v, Hstep.out.trans Hs.out, h2, h3, h4, h5⟩, hb, hz⟩
    have e1' : (x.toList == [46]) = false := by simpa using e1
    by_cases e2 : x.toList = [46, 46]
    · have e2' : (x.toList == [46, 46]) = true := by simp [e2]
      by_cases ex : xs = []
      · -- '..' with nothing to take away
        have hs : cleanStep xs x = none := by simp [cleanStep, e2, ex]
        have Hs := Lib.hid hs
        obtain ⟨A, cp, rfl, hcp⟩ := h3.slice
        subst ex
        have c0 := h4.cell
        have f0 := h4.frozen
        have c1 := h5.cell
        have f1 := h5.frozen
        clear hs e0 e1 e2
        gi_wp2
        exact clean_out (Hstep.out.trans Hs.out) h4 h5 hb
      · obtain ⟨g, cp, rfl, hcp⟩ := h3.form (by simpa using ex)
        have hpos : 0 < xs.length := List.length_pos_iff.2 ex
        have hs : cleanStep xs x = some (xs.take (xs.length - 1)) := by simp [cleanStep, e2, ex]
        have Hs := Lib.hid hs
        clear hs e0 e1 e2 ex
        obtain ⟨k, hk⟩ : ∃ k : Nat, xs.length = k + 1 := ⟨xs.length - 1, by omega⟩
        have hkk : ((xs.map Value.string).length : Nat) = k + 1 := by simpa using hk
        rw [hkk] at h2 h3 c2 hcp
        have Hk := Lib.hid hk
        clear hk hkk hpos
        have hk2 : k ≤ 1000001 := by have := Hk.out; omega
        gi_wp2
        exact clean_cut (n := k) (by rw [Hstep.out, Hs.out, Hk.out]; rfl) h2 h3 h4 h5 hb hz (by have := Hk.out; omega)
    have e2' : (x.toList == [46, 46]) = false := by simpa using e2
    by_cases e3 : Lib.indexByte x.data.toList 0 ≥ 0
    · have hs : cleanStep xs x = none := by simp [cleanStep, e0, e1, e2, e3]
      have Hs := Lib.hid hs
      have c0 := h4.cell
      have f0 := h4.frozen
      have c1 := h5.cell
      have f1 := h5.frozen
      have e3' : decide (0 ≤ Lib.indexByte x.data.toList 0) = true := by simpa using e3
      clear hs e0 e1 e2 e3
      gi_wp2_with (refine ⟨trivial, ?_⟩; (with_reducible refine (CallsIn.inRound l (callsIn_wide.2 (Tryd.strings_IndexByte x 0 _))).mono ?_); rintro e w' ⟨rfl, hw⟩; have hw' := hw.symm; clear hw; subst hw')
      exact clean_out (Hstep.out.trans Hs.out) h4 h5 hb
    · have hs : cleanStep xs x = some (xs ++ [x]) := by simp [cleanStep, e0, e1, e2, e3]
      have Hs := Lib.hid hs
      have e3' : decide (0 ≤ Lib.indexByte x.data.toList 0) = false := by simpa using e3
      clear hs e0 e1 e2 e3
      gi_wp2_with (first | (refine ⟨trivial, ?_⟩; (with_reducible refine (CallsIn.inRound l (callsIn_wide.2 (Tryd.strings_IndexByte x 0 _))).mono ?_); rintro e w' ⟨rfl, hw⟩; have hw' := hw.symm; clear hw; subst hw') | (gi_at_builtin; refine wpListIn_append_ownC _ rfl _ _ 35 rfl (w.heap.size + 6) 9 i0 (.string ⟨#[]⟩) 16 Tryd.underlying35 hi hz0 hz1 hz2 rfl _ (xs.map Value.string) rfl (h3.alloc _) ⟨W.heap.size, 0, none⟩ (.string x) rfl (cell_one_new _ _ _ 0 _ rfl) rfl (by simp [maxLen]; omega) (by simp; omega) (by have := hb.size; simp; omega) ?_; intro v' w1 hown' hgrow; obtain ⟨g', cap', rfl, hcap'⟩ := hown'.form (by simp); have hpush := Lib.hid (clean_push h2 h3 h4 h5 hb hz hown' hgrow); have c3 := hpush.out.1.cell; have f3 := hpush.out.1.frozen))
      have hfin := hpush.out.2 W6.heap.size _ (Hstep.out.trans Hs.out)
      simp only [List.length_append, List.length_map, List.length_singleton] at hfin
      exact hfin
  case done =>
    rintro D W hD ⟨⟨xs, v, h1, h2, h3, h4, h5⟩, hb, hz⟩ hK
    have c2 := h2.cell
    have hD' : D < W.heap.size := (Array.getElem?_eq_some_iff.1 hK).1
    obtain ⟨k1, k2⟩ := cleanAll_spec _ _ h1
    have hpl : p.data.toList.length = p.size := Array.length_toList ..
    have hlen : xs.length ≤ 1000001 := by
      have k3 := splitB_length 47 p.data.toList
      simp only [splitS, List.length_map] at k1
      omega
    have hmem : ∀ y ∈ xs.map (·.data.toList), y.length ≤ 1000000 := by
      intro y hy
      obtain ⟨z, hz1, rfl⟩ := List.mem_map.1 hy
      obtain ⟨q, hq, rfl⟩ := List.mem_map.1 (k2 z hz1)
      have := splitB_mem_length 47 _ q hq
      rw [bs_data]
      omega
    have hjl := join_le [47] (xs.map (·.data.toList)) hmem
    simp only [List.length_map, List.length_singleton] at hjl
    have hjl2 : (Lib.join (xs.map (·.data.toList)) [47]).length ≤ 140737488355328 := by
      have : xs.length * (1000000 + 1) ≤ 1000001 * (1000000 + 1) := Nat.mul_le_mul_right _ hlen
      omega
    clear hjl hmem k1 k2 hpl
    have hcl : cleanOf p = if (slashed xs).size > 200 then (⟨#[]⟩, 3) else (slashed xs, 0) := by unfold cleanOf; rw [h1]
    have Hcl := Lib.hid hcl
    clear hcl
    have hjs : (slashed xs).size = (Lib.join (xs.map (·.data.toList)) [47]).length := by simp [slashed, ByteArray.size]
    -- the call of Join: what follows is the same for no part and for some
    have hjoin : ∀ W' : World, Below W.heap.size W W' → Boxed W' w.heap.size 9 (.string ⟨#[]⟩) ∧ Boxed W' (w.heap.size + 1) 25 (.int .i64 0) ∧ W'.heap[D]? = some (.deferred (some [])) ∧ Below w.heap.size w W' :=
      fun W' h => ⟨(h.block _ h4.lt).trans h4, (h.block _ h5.lt).trans h5, (h.block _ hD').trans hK, hb.trans (h.mono hb.size)⟩
    have Hjoin := Lib.hid hjoin
    have Hjs := Lib.hid hjs
    clear hjoin hjs
    have hcall : CallsIn Fence.wide 4 Tryd.prog 24 #[v, .string ⟨#[47]⟩] W fun e w' => e = .returned (.string (slashed xs)) ∧ Below W.heap.size W w' := by
      refine callsIn_wide.2 ?_
      by_cases ex : xs = []
      · subst ex
        obtain ⟨A, c, rfl, _⟩ := h3.slice
        refine (Tryd.strings_Join_none A c ⟨#[47]⟩ W).mono ?_
        rintro e w' ⟨rfl, rfl⟩
        exact ⟨rfl, Below.refl _ _⟩
      · obtain ⟨g, cp, rfl, hcp⟩ := h3.form (by simpa using ex)
        have hcells := h3.cell rfl
        have hgl : g < W.heap.size := by obtain ⟨_, cur, hh⟩ := h3.block g rfl; exact (Array.getElem?_eq_some_iff.1 hh).1
        rw [List.length_map] at hcp
        have hcells' : ∀ (j : Nat) (x : ByteArray), xs[j]? = some x → W.cell? ⟨g, 0 + j, none⟩ = some (.string x) := fun j x hj => hcells.2 j _ (by simp [hj])
        rw [List.length_map]
        exact (Tryd.strings_Join g 0 cp xs ⟨#[47]⟩ W hcells' hgl (by omega) hcp hjl2).mono fun e w' h => h
    have Hcall := Lib.hid hcall
    clear hcall hjl2
    obtain ⟨A, cp, rfl, _⟩ := h3.slice
    have hcall := Hcall.out
    clear Hcall
    rw [List.length_map] at hcall h2 h3 c2
    have Hcall := Lib.hid hcall
    clear hcall
    by_cases hgt : (slashed xs).size > 200
    · have hgt' : decide (200 < (slashed xs).size) = true := by simpa using hgt
      gi_wp2_with (refine ⟨trivial, ?_⟩; (with_reducible refine Hcall.out.mono ?_); rintro e w' ⟨rfl, hbj⟩; obtain ⟨q4, q5, qK, qB⟩ := Hjoin.out _ hbj; have c4 := q4.cell; have f4 := q4.frozen; have c5 := q5.cell; have f5 := q5.frozen)
      have hK' := ((KeepsOthers.setCell w' ⟨w.heap.size, 0, none⟩ (.string ⟨#[]⟩)).trans (KeepsOthers.setCell _ ⟨w.heap.size + 1, 0, none⟩ (.int .i64 3))).same D _ qK rfl
      have u4 := boxed_other (B' := w.heap.size + 1) (u := .int .i64 3) (q4.set (.string ⟨#[]⟩)) (by omega)
      have u5 := (boxed_other (B' := w.heap.size) (u := .string ⟨#[]⟩) q5 (by omega)).set (.int .i64 3)
      refine ⟨by simp, .inl ⟨_, _, rfl, run_takeDeferred hK', ?_⟩⟩
      have r4 := cell_kept u4.cell (grownBy_putObj' _ D (.deferred none)) (fun r e => by cases e; exact ⟨_, hK', rfl⟩)
      have r5 := cell_kept u5.cell (grownBy_putObj' _ D (.deferred none)) (fun r e => by cases e; exact ⟨_, hK', rfl⟩)
      refine ⟨.tuple #[.string ⟨#[]⟩, .int .i64 3], ?_, by rw [Hcl.out, if_pos hgt], ((qB.setCell (p := ⟨w.heap.size, 0, none⟩) (Nat.le_refl _) _).setCell (p := ⟨w.heap.size + 1, 0, none⟩) (by simp) _).trans (belowK_b (w := w) (Nat.le_refl _) _ D _ _ (by omega) hK' rfl rfl)⟩
      simp [results, Tryd.f9, go_sem, r4, r5]
    · have hgt' : decide (200 < (slashed xs).size) = false := by simpa using hgt
      gi_wp2_with (refine ⟨trivial, ?_⟩; (with_reducible refine Hcall.out.mono ?_); rintro e w' ⟨rfl, hbj⟩; obtain ⟨q4, q5, qK, qB⟩ := Hjoin.out _ hbj; have c4 := q4.cell; have f4 := q4.frozen; have c5 := q5.cell; have f5 := q5.frozen)
      have hK' := ((KeepsOthers.setCell w' ⟨w.heap.size, 0, none⟩ (.string (slashed xs))).trans (KeepsOthers.setCell _ ⟨w.heap.size + 1, 0, none⟩ (.int .i64 0))).same D _ qK rfl
      have u4 := boxed_other (B' := w.heap.size + 1) (u := .int .i64 0) (q4.set (.string (slashed xs))) (by omega)
      have u5 := (boxed_other (B' := w.heap.size) (u := .string (slashed xs)) q5 (by omega)).set (.int .i64 0)
      refine ⟨by simp, .inl ⟨_, _, rfl, run_takeDeferred hK', ?_⟩⟩
      have r4 := cell_kept u4.cell (grownBy_putObj' _ D (.deferred none)) (fun r e => by cases e; exact ⟨_, hK', rfl⟩)
      have r5 := cell_kept u5.cell (grownBy_putObj' _ D (.deferred none)) (fun r e => by cases e; exact ⟨_, hK', rfl⟩)
      refine ⟨.tuple #[.string (slashed xs), .int .i64 0], ?_, by rw [Hcl.out, if_neg hgt], ((qB.setCell (p := ⟨w.heap.size, 0, none⟩) (Nat.le_refl _) _).setCell (p := ⟨w.heap.size + 1, 0, none⟩) (by simp) _).trans (belowK_b (w := w) (Nat.le_refl _) _ D _ _ (by omega) hK' rfl rfl)⟩
      simp [results, Tryd.f9, go_sem, r4, r5]
  case stop =>
    rintro D c pre W hD hpre ⟨⟨rfl, h1, h4, h5⟩, hb⟩ hK
    gi_wp2
    refine ⟨by simp, .inl ⟨_, _, rfl, run_takeDeferred hK, ?_⟩⟩
    have r4 := cell_kept h4.cell (grownBy_putObj' _ D (.deferred none)) (fun r e => by cases e; exact ⟨_, hK, rfl⟩)
    have r5 := cell_kept h5.cell (grownBy_putObj' _ D (.deferred none)) (fun r e => by cases e; exact ⟨_, hK, rfl⟩)
    have hcl : cleanOf p = (⟨#[]⟩, 71) := by unfold cleanOf; rw [cleanAll_prefix_none hpre h1]
    refine ⟨.tuple #[.string ⟨#[]⟩, .int .i64 71], ?_, by rw [hcl], hb.trans (belowK_b (w := w) (Nat.le_refl _) _ D _ _ (by omega) hK rfl rfl)⟩
    simp [results, Tryd.f9, go_sem, r4, r5]

theorem paths_Clean.calls (a0 : ByteArray) (r1 : ByteArray) (r2 : Int) (w : World) (h : paths_Clean.f a0 = some (r1, r2)) :
    Calls Tryd.prog 9 #[.string a0] w fun e w' => e = .returned (.tuple #[.string r1, .int .i64 r2]) ∧ Below w.heap.size w w' := by
  unfold paths_Clean.f at h
  split at h
  · rename_i hs
    have h2 := Option.some.inj h
    have h3 := callsIn_wide.1 (Clean_in a0 hs w)
    rw [h2] at h3
    exact h3
  · cases h
end Go.Proofs.YtoklancgpmnhcaaDoor.Hand
