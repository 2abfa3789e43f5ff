/-
  The chapter's examples, and the law PathsTell. By an AI agent.
-/
import Derived.Test.YtoklancgpmnhcaaDoorPathsEv2
namespace Go.Proofs.YtoklancgpmnhcaaDoor.Hand
open Go Go.RowKit Go.Proofs.YtoklancgpmnhcaaDoor.PAll Go.Proofs.YtoklancgpmnhcaaDoorW.PrintWords Go.Proofs.YtoklancgpmnhcaaDoorW.PrintLast

theorem cleaned_ev : Ev (fun k => lighterlaw14_cleaned.f k) true := by
  have h : lighterlaw14_cleaned.f 20 = some true := by decide +kernel
  exact Ev.of (fun k => lighterlaw14_cleaned.mono k) h
theorem step_eq {α : Type} {g f : Nat → Option α} {r : α} (h : ∀ k, g (k + 1) = f k) (k : Ev f r) : Ev g r := Ev.step h k

theorem PathsTell : lighterlaw14_PathsTell.Pure := by
  intro p q _ _
  refine Ev.rounds ?_
  unfold lighterlaw14_PathsTell.f
  have big : Ev (fun k => lighterlaw14_PathsTell.j0 k p q true) true :=
    Ev.step (f := fun k => (lighterlaw14_cleaned.f k).bind fun t => some t) (fun _ => rfl) (Ev.bind cleaned_ev (Ev.now _))
  by_cases h1 : p.size > 400
  · exact ev_pos (by omega) big
  by_cases h2 : q.size > 400
  · refine ev_neg (by omega) ?_
    rw [show decide ((q.size : Int) > 400) = true from decide_eq_true (by omega)]
    exact big
  refine ev_neg (by omega) ?_
  rw [show decide ((q.size : Int) > 400) = false from decide_eq_false (by omega)]
  generalize hb : false = b
  refine Ev.step (fun _ => rfl) ?_
  refine ev_neg (by simp [← hb]) ?_
  clear hb b
  refine Ev.bind (ev_eq (clean_f (by omega))) (Ev.bind (refClean_f p (by omega)) (Ev.bind (ev_eq (white_eq p)) (Ev.bind (refWhite_f p) ?_)))
  refine ev_pos rfl (ev_pos rfl (ev_pos rfl ?_))
  rw [show ((whiteOf p.data.toList).2.1 != (whiteOf p.data.toList).2.1) = false by simp, show ((whiteOf p.data.toList).2.2 != (whiteOf p.data.toList).2.2) = false by simp]
  refine ev_neg (by simp) ?_
  generalize hb : false = b
  refine Ev.step (fun _ => rfl) ?_
  refine ev_neg (by simp [← hb]) ?_
  subst hb
  refine Ev.bind (parent_ev p (by omega)) (Ev.bind (refParent_f p (by omega)) (ev_pos rfl ?_))
  refine Ev.bind (base_ev p (by omega)) (Ev.bind (refBase_f p (by omega)) (ev_pos rfl ?_))
  refine Ev.bind (ev_eq (join_eq p q (by omega) (by omega))) (Ev.bind (ev_eq (refJoin_eq p q (by omega) (by omega))) (ev_pos rfl ?_))
  refine Ev.bind (ev_eq (inside_eq p q (by omega))) (Ev.bind (ev_eq (refInside_eq p q)) (ev_pos (by simp) ?_))
  have e2 : (⟨#[47]⟩ : ByteArray).size = 1 := rfl
  refine ev_pos (by omega) (ev_pos (by rw [ByteArray.size_append]; omega) ?_)
  refine Ev.bind (ev_eq (inside_eq p _ (by omega))) ?_
  refine ev_pos ?_ (Ev.bind cleaned_ev (Ev.now _))
  unfold insideL
  rw [decide_eq_true_iff, data_append, data_append]
  exact .inr (.inr ⟨_, rfl⟩)
end Go.Proofs.YtoklancgpmnhcaaDoor.Hand
