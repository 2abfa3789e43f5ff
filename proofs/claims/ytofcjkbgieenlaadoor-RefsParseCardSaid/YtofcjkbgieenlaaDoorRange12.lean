/- refs.path: a range over strings.SplitSeq, by the kit's walk. By an AI agent. -/
import Derived.Test.YtofcjkbgieenlaaDoorSplitSeq
import Derived.Test.YtofcjkbgieenlaaDoorRefsS
import Derived.Outline
set_option linter.unusedVariables false
set_option linter.unusedSimpArgs false
namespace Go.Proofs.YtofcjkbgieenlaaDoor.PM
open Go Go.Proofs Go.RowKit Go.Shelf Go.Proofs.YtofcjkbgieenlaaDoor.Hand
attribute [local go_sem] Oper.semAt_some

theorem closedL_self : ∀ {l : List Value}, closedL l = true → VRs [] l l
  | [], _ => .nil
  | v :: l, h => by
    simp only [closedL, Bool.and_eq_true] at h
    refine .cons ?_ (closedL_self h.2)
    have one : ∀ u, closed1 u = true → VR [] u u := fun u hu => by
      unfold closed1 at hu
      split at hu
      · exact .agg (VRs.plain hu)
      · exact .func .nil .nil
      · exact VR.plain hu
    have all : ∀ l : List Value, closedL1 l = true → VRs [] l l := by
      intro l
      induction l with
      | nil => intro _; exact .nil
      | cons u l ih =>
        intro hl
        simp only [closedL1, Bool.and_eq_true] at hl
        exact .cons (one u hl.1) (ih hl.2)
    have hv := h.1
    unfold closedV at hv
    split at hv
    · exact .tuple (all _ hv)
    · exact one _ hv
/-- A proved function, as the kit has it. -/
theorem PureOk.calls {P : Program} {f : FuncId} {g : Pure} (h : PureOk P f g) {args : List Value} {c : Prop} {r : Value} (hg : g args = some (c, r)) (hc : c) (w : World) :
    Calls P f ⟨args⟩ w fun e w' => e = .returned r ∧ Below w.heap.size w w' := by
  obtain ⟨h1, h2⟩ := h.meets args c r hg hc
  have ha := h.args args c r hg
  have hv : VRs [] args args := closedL_self ha
  refine (h2 [] w args (HR.empty w) hv).mono ?_
  rintro e w' ⟨r', r'', μ', H', rfl, k1, _, _, _, _, _, k7, rfl⟩
  obtain ⟨rfl, _⟩ := closedV_same (ν := μ') h1 k1
  exact ⟨rfl, k7⟩

theorem boxed_step {k t B m : Nat} {v : Value} {A A' : World} (h : Boxed A k t v) (hb : BoxStep B m A A') (hk : k < B) : Boxed A' k t v := (hb.others k (by omega)).trans h
theorem below_step {n0 B m : Nat} {w A A' : World} (h : Below n0 w A) (hb : BoxStep B m A A') (hk : n0 ≤ B) : Below n0 w A' :=
  ⟨hb.os.trans h.os, hb.tape.trans h.tape, hb.output.trans h.output, by rw [hb.size]; exact h.size, fun k hlt => (hb.others k (by omega)).trans (h.block k hlt)⟩
theorem boxed_keep {B t : Nat} {v : Value} {A A' : World} {row : Option Nat} (h : Boxed A B t v) (hg : A.grownBy A' row) (hr : ∀ r, row = some r → ∃ o : Obj, A.heap[r]? = some o ∧ o.isCells = false) : Boxed A' B t v :=
  h.kept hg fun e => by
    obtain ⟨o, ho, hc⟩ := hr B e.symm
    rw [show A.heap[B]? = _ from h] at ho; cases ho; cases hc
theorem boxed_later {W W' : World} {k t : Nat} {v : Value} (h : Boxed W k t v) (hb : Below W.heap.size W W') : Boxed W' k t v := (hb.block _ h.lt).trans h
theorem keeps_below {S : Nat} {W W' : World} (h : Below W.heap.size W W') : KeepsFrom S W W' := (KeepsOthers.mk h.size fun k o hk ho => by
  rw [h.block k (Array.getElem?_eq_some_iff.1 hk).1]; exact hk).from S
theorem boxkept_below {B m : Nat} {W W' : World} (h : Below W.heap.size W W') (hB : B + m ≤ W.heap.size) : BoxKept B m W W' := fun k _ h2 => h.block k (by omega)

/-- Between two rounds, and behind a return. -/
def AllInv (f : ByteArray → Bool) (w : World) (pre : List ByteArray) (W : World) : Prop :=
  Boxed W w.heap.size 4 (.bool false) ∧ (∀ x ∈ pre, f x = true) ∧ Below w.heap.size w W ∧ w.heap.size + 4 ≤ W.heap.size
def AllOut (f : ByteArray → Bool) (w : World) (c : Code) (pre : List ByteArray) (W : World) : Prop :=
  c = .ret ∧ Boxed W w.heap.size 4 (.bool false) ∧ (∃ x ∈ pre, f x = false) ∧ Below w.heap.size w W
theorem AllInv.ownFrom (f : ByteArray → Bool) (w : World) (B : Nat) (hB : w.heap.size ≤ B) : OwnFrom B (AllInv f w) := by
  rintro pre A A' row ⟨h1, h2, hb, hz⟩ hg hr
  have hr' : ∀ r, row = some r → ∃ o : Obj, A.heap[r]? = some o ∧ o.isCells = false := fun r e => (hr r e).2
  exact ⟨boxed_keep h1 hg hr', h2, hb.grown hg hb.size (fun k e => by have := (hr k e).1; omega), Nat.le_trans hz hg.size⟩
theorem AllOut.ownFrom (f : ByteArray → Bool) (w : World) (B : Nat) (hB : w.heap.size ≤ B) (c : Code) : OwnFrom B (AllOut f w c) := by
  rintro pre A A' row ⟨h1, h2, h3, hb⟩ hg hr
  have hr' : ∀ r, row = some r → ∃ o : Obj, A.heap[r]? = some o ∧ o.isCells = false := fun r e => (hr r e).2
  exact ⟨h1, boxed_keep h2 hg hr', h3, hb.grown hg hb.size (fun k e => by have := (hr k e).1; omega)⟩
theorem AllInv.step {f : ByteArray → Bool} {w A A' : World} {pre : List ByteArray} (h : AllInv f w pre A) (hb : BoxStep (w.heap.size + 1) 3 A A') : AllInv f w pre A' :=
  ⟨boxed_step h.1 hb (by omega), h.2.1, below_step h.2.2.1 hb (by omega), by rw [hb.size]; exact h.2.2.2⟩
theorem AllOut.step {f : ByteArray → Bool} {w A A' : World} {c : Code} {pre : List ByteArray} (h : AllOut f w c pre A) (hb : BoxStep (w.heap.size + 1) 3 A A') : AllOut f w c pre A' :=
  ⟨h.1, boxed_step h.2.1 hb (by omega), h.2.2.1, below_step h.2.2.2 hb (by omega)⟩
def pathPS (s : ByteArray) : Bool := (splitS 47 s).all partPS
set_option maxHeartbeats 4000000 in
set_option maxRecDepth 100000 in
theorem path_in (p : ByteArray) (hp : p.size ≤ 1000000) (w : World) :
    CallsIn Fence.wide 5 Tryd.prog 32 #[.string p] w fun e w' => e = .returned (.bool (pathPS p)) ∧ Below w.heap.size w w' := by
  refine callsIn_of_wp_marks Tryd.func32 rfl trivial ?_ rfl
  simp only [Tryd.ntmps32, List.size_toArray, List.length_cons, List.length_nil, Nat.reduceAdd, Nat.reduceSub, Array.replicate_succ, Array.replicate_zero, List.push_toArray, List.append_toArray, List.nil_append, List.cons_append]
  gi_wp2_with (refine ⟨trivial, ?_⟩; (with_reducible refine (callsIn_wide.2 (SplitSeq_calls p ⟨#[47]⟩ _)).mono ?_); rintro e w' ⟨rfl, rfl⟩)
  have b0 := (((Boxed.new w 4 (.bool false)).alloc (.cells #[.string p] 9)).alloc (.cells #[.string ⟨#[47]⟩] 9)).alloc (.cells #[.int .i64 0] 3)
  have b3 := ((Boxed.new (w.alloc (.cells #[.bool false] 4)) 9 (.string p)).alloc (.cells #[.string ⟨#[47]⟩] 9)).alloc (.cells #[.int .i64 0] 3)
  have b4 := (Boxed.new ((w.alloc (.cells #[.bool false] 4)).alloc (.cells #[.string p] 9)) 9 (.string ⟨#[47]⟩)).alloc (.cells #[.int .i64 0] 3)
  have b5 := Boxed.new (((w.alloc (.cells #[.bool false] 4)).alloc (.cells #[.string p] 9)).alloc (.cells #[.string ⟨#[47]⟩] 9)) 3 (.int .i64 0)
  have hB : Below w.heap.size w ((((w.alloc (.cells #[.bool false] 4)).alloc (.cells #[.string p] 9)).alloc (.cells #[.string ⟨#[47]⟩] 9)).alloc (.cells #[.int .i64 0] 3)) :=
    ((((Below.refl _ w).alloc (Nat.le_refl _) _).alloc (by simp) _).alloc (by simp; omega) _).alloc (by simp; omega) _
  generalize hW : (((w.alloc (.cells #[.bool false] 4)).alloc (.cells #[.string p] 9)).alloc (.cells #[.string ⟨#[47]⟩] 9)).alloc (.cells #[.int .i64 0] 3) = W6 at b0 b3 b4 b5 hB ⊢
  have hsz : W6.heap.size = w.heap.size + 4 := by rw [← hW]; simp
  clear hW
  simp only [World.size_alloc, Nat.add_assoc, Nat.reduceAdd] at b0 b3 b4 b5 ⊢
  refine wpIn_rangeFunc_box rfl (by omega) (gf := 79) (lb := #[.pointer (some ⟨w.heap.size + 2, 0, none⟩), .pointer (some ⟨w.heap.size + 1, 0, none⟩), .pointer (some ⟨w.heap.size + 3, 0, none⟩)]) rfl trivial (enters_of Tryd.func79 (by kernel_rfl) rfl)
    (splitSeq1_seq 4 (w.heap.size + 1) (by omega) 47 p (by omega) W6 ⟨b3, b4, b5⟩) (by omega) (fun _ => rfl)
    (AllInv partPS w) (AllOut partPS w) (AllInv.ownFrom _ w _ (by omega)) (AllOut.ownFrom _ w _ (by omega)) (fun _ _ _ h hb => h.step hb) (fun _ _ _ _ h hb => h.step hb)
    ⟨b0, fun _ h => absurd h List.not_mem_nil, hB, by omega⟩
    (fun x => { tmps := #[Value.string p, undef, Value.pointer (some { block := w.heap.size, off := 0 }), .string x, Value.string p,
      Value.func (Fn.func 79) #[] #[Value.pointer (some { block := w.heap.size + 2, off := 0 }), Value.pointer (some { block := w.heap.size + 1, off := 0 }), Value.pointer (some { block := w.heap.size + 3, off := 0 })],
      .string x, undef, undef, undef], defers := [] }) ?assign ?body ?done ?stop
  case assign =>
    intro l x W K hK
    gi_wp2
    exact hK
  case body =>
    rintro l pre x W ⟨h1, h2, hb, hz⟩ hpx
    have hxs : x.size < 2 ^ 60 := by
      have hm : x ∈ splitS 47 p := hpx.subset (by simp)
      obtain ⟨q, hq, rfl⟩ := List.mem_map.1 hm
      have := splitB_mem_length 47 _ q hq
      rw [bs_size]
      have : p.data.toList.length = p.size := Array.length_toList ..
      omega
    have hcall := fun W => partP_ok.calls (args := [.string x]) rfl hxs W
    have Hcall := Lib.hid hcall
    clear hcall hxs
    cases hx : partPS x with
    | true =>
      rw [hx] at Hcall
      gi_wp2_with (refine ⟨trivial, ?_⟩; (with_reducible refine (CallsIn.inRound l (callsIn_wide.2 (Hcall.out _))).mono ?_); rintro e w' ⟨rfl, hbb⟩)
      exact ⟨keeps_below hbb, boxkept_below hbb (by omega), (hbb.block _ h1.lt).trans h1, fun y hy => by
        rcases List.mem_append.1 hy with hy | hy
        · exact h2 y hy
        · rw [List.mem_singleton.1 hy]; exact hx, hb.trans (hbb.mono hb.size), by have := hbb.size; omega⟩
    | false =>
      rw [hx] at Hcall
      gi_wp2_with (refine ⟨trivial, ?_⟩; (with_reducible refine (CallsIn.inRound l (callsIn_wide.2 (Hcall.out _))).mono ?_); rintro e w' ⟨rfl, hbb⟩; have h1' := boxed_later h1 hbb; have c0 := h1'.cell; have f0 := h1'.frozen)
      exact ⟨(keeps_below hbb).trans ((KeepsOthers.setCell _ _ _).from _), rfl, h1'.set _, ⟨x, by simp, hx⟩, (hb.trans (hbb.mono hb.size)).setCell (p := ⟨w.heap.size, 0, none⟩) (Nat.le_refl _) _⟩
  case done =>
    rintro D W hD ⟨h1, h2, hb, hz⟩ hK
    have c0 := h1.cell
    have f0 := h1.frozen
    have hall : pathPS p = true := List.all_eq_true.2 h2
    have Hall := Lib.hid hall
    clear hall
    gi_wp2
    have hK' := (KeepsOthers.setCell W ⟨w.heap.size, 0, none⟩ (.bool true)).same D _ hK rfl
    have u := (h1.set (.bool true))
    refine ⟨by simp, .inl ⟨_, _, rfl, run_takeDeferred hK', ?_⟩⟩
    have r := cell_kept u.cell (grownBy_putObj' _ D (.deferred none)) (fun r e => by cases e; exact ⟨_, hK', rfl⟩)
    refine ⟨.bool true, ?_, by rw [Hall.out], (hb.setCell (p := ⟨w.heap.size, 0, none⟩) (Nat.le_refl _) _).trans (belowK_b (w := w) (Nat.le_refl _) _ D _ _ (by omega) hK' rfl rfl)⟩
    simp [results, Tryd.f32, go_sem, r]
  case stop =>
    rintro D c pre W hD hpre ⟨rfl, h1, ⟨x, hx1, hx2⟩, hb⟩ hK
    gi_wp2
    refine ⟨by simp, .inl ⟨_, _, rfl, run_takeDeferred hK, ?_⟩⟩
    have r := cell_kept h1.cell (grownBy_putObj' _ D (.deferred none)) (fun r e => by cases e; exact ⟨_, hK, rfl⟩)
    have hall : pathPS p = false := by
      cases h : pathPS p with
      | false => rfl
      | true =>
        have := List.all_eq_true.1 h x (hpre.subset hx1)
        rw [hx2] at this
        cases this
    refine ⟨.bool false, ?_, by rw [hall], hb.trans (belowK_b (w := w) (Nat.le_refl _) _ D _ _ (by omega) hK rfl rfl)⟩
    simp [results, Tryd.f32, go_sem, r]
def pathPG : Pure
  | [.string s] => some (s.size ≤ 1000000, .bool (pathPS s))
  | _ => none
theorem ppath_ok : PureOk Tryd.prog 32 pathPG :=
  .of_shelf Tryd.func32 (by kernel_rfl) rfl fun args c r hg => by
    unfold pathPG at hg
    split at hg
    · rename_i s
      cases hg
      exact ⟨rfl, fun hcc => ⟨rfl, fun w => callsIn_wide.1 (path_in s hcc w)⟩⟩
    · cases hg
end Go.Proofs.YtofcjkbgieenlaaDoor.PM
