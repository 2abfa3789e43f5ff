/-
  The law PathsParts, as a plain statement. By an AI agent.
-/
import Derived.Test.YtoklancgpmnhcaaDoorPathsEv2
import Derived.Test.YtoklancgpmnhcaaDoorPAllx8
namespace Go.Proofs.YtoklancgpmnhcaaDoor.Hand
open Go Go.RowKit Go.Proofs.YtoklancgpmnhcaaDoor.PAll Go.Proofs.YtoklancgpmnhcaaDoorW.PrintWords Go.Proofs.YtoklancgpmnhcaaDoorW.PrintLast

theorem cleaned_ev3 : Ev (fun k => lighterlaw14_cleaned.f k) true := by
  have h : lighterlaw14_cleaned.f 20 = some true := by decide +kernel
  exact Ev.of (fun k => lighterlaw14_cleaned.mono k) h
theorem rdOf_size {l : List ByteArray} {n : Nat} (h : ∀ x ∈ l, x.size ≤ n) (i : Int) : (rdOf ByteArray.empty l i).size ≤ n := by
  unfold rdOf
  rw [List.getD_eq_getElem?_getD]
  cases hi : l[i.toNat]? with
  | none => exact Nat.zero_le n
  | some x => exact h x (List.mem_of_getElem? hi)
theorem rd_u8 {l : List Int} (h : ∀ x ∈ l, (Lit.int .u8 x).wf = true) (i : Int) : 0 ≤ rd l i ∧ rd l i < 256 := by
  unfold rd
  rw [List.getD_eq_getElem?_getD]
  cases hi : l[i.toNat]? with
  | none => exact ⟨by simp, by simp⟩
  | some x =>
    have h1 := h x (List.mem_of_getElem? hi)
    simp [Lit.wf] at h1
    have m0 : IntKind.u8.min = 0 := rfl
    have m1 : IntKind.u8.max = 255 := rfl
    rw [m0, m1] at h1
    show 0 ≤ x ∧ x < 256
    omega
/-- the law's parts -/
def lparts : List ByteArray := [⟨#[97]⟩, ⟨#[98]⟩, ⟨#[46]⟩, ⟨#[46, 46]⟩, ⟨#[]⟩, ⟨#[46, 119, 104, 46, 97]⟩, ⟨#[46, 119, 104, 46, 46, 119, 104, 46, 46, 111, 112, 113]⟩, ⟨#[48, 49, 50, 51, 52, 53, 54, 55, 56, 57]⟩, ⟨#[97, 0]⟩, ⟨#[46, 46, 46]⟩]
theorem lparts_size : ∀ x ∈ lparts, x.size ≤ 12 := by decide
theorem parts_loop {l : List Int} (hl : l.length ≤ 60) (hr : ∀ x ∈ l, (Lit.int .u8 x).wf = true) (n : Int) (hn : 0 ≤ n ∧ n < 256) :
    ∀ (d i : Nat) (s : ByteArray), i + d = l.length → s.size ≤ 13 * i →
      Ev (fun k => lighterlaw14_PathsParts.l0 k l n s i ⟨#[97]⟩ ⟨#[98]⟩ ⟨#[46]⟩ ⟨#[46, 46]⟩ ⟨#[]⟩ ⟨#[46, 119, 104, 46, 97]⟩ ⟨#[46, 119, 104, 46, 46, 119, 104, 46, 46, 111, 112, 113]⟩ ⟨#[48, 49, 50, 51, 52, 53, 54, 55, 56, 57]⟩ ⟨#[97, 0]⟩ ⟨#[46, 46, 46]⟩) true := by
  intro d
  induction d with
  | zero =>
    intro i s hi hs
    refine Ev.step (fun _ => rfl) ?_
    refine ev_neg (by omega) ?_
    refine Ev.bind (ev_eq (clean_f (by omega))) (Ev.bind (refClean_f s (by omega)) ?_)
    have hc := cleanOf_size s
    refine ev_neg (by rw [wrap_id (by omega) (by omega)]; omega) ?_
    refine Ev.bind (base_ev _ (by omega)) (Ev.bind (ev_eq (white_eq _)) (Ev.bind (refBase_f _ (by omega)) (Ev.bind (refWhite_f _) ?_)))
    refine ev_pos rfl (ev_pos rfl ?_)
    have e1 : wrap64 n = n := wrap_id (by omega) (by omega)
    have e2 : wrap64 ((s.size : Int) + 1) = (s.size : Int) + 1 := wrap_id (by omega) (by omega)
    rw [e1, e2]
    have e3 : Int.tmod n ((s.size : Int) + 1) = n % ((s.size : Int) + 1) := Int.tmod_eq_emod_of_nonneg hn.1
    rw [e3]
    have h0 := Int.emod_nonneg n (show ((s.size : Int) + 1) ≠ 0 by omega)
    have h1 := Int.emod_lt_of_pos n (show (0 : Int) < (s.size : Int) + 1 by omega)
    have hz : ∀ (a b : Nat), (s.extract a b).size ≤ s.size := by intro a b; rw [ByteArray.size_extract]; omega
    refine ev_pos h0 (ev_pos (by omega) ?_)
    refine Ev.bind (ev_eq (inside_eq _ s (by have := hz 0 (n % ((s.size : Int) + 1)).toNat; omega))) (Ev.bind (ev_eq (refInside_eq _ s)) ?_)
    refine ev_pos (by simp) (ev_pos rfl (ev_pos (by simp) (ev_pos (by simp) (Ev.bind cleaned_ev3 (Ev.now _)))))
  | succ d ih =>
    intro i s hi hs
    have hx := rd_u8 hr i
    have e0 : Int.tmod (rd l i) 10 = rd l i % 10 := Int.tmod_eq_emod_of_nonneg hx.1
    have hsz := rdOf_size lparts_size (Int.tmod (rd l i) 10)
    have ew : wrap64 ((i : Int) + 1) = ((i + 1 : Nat) : Int) := by rw [wrap_id (by omega) (by omega)]; omega
    have es : (⟨#[47]⟩ : ByteArray).size = 1 := rfl
    have eb : (s ++ (⟨#[47]⟩ : ByteArray)).size = s.size + 1 := by rw [ByteArray.size_append, es]
    refine Ev.step (fun _ => rfl) ?_
    refine ev_pos (by omega) ?_
    rw [ew]
    by_cases h0 : (i : Int) > 0
    · refine ev_pos h0 (ev_pos (by omega) (ev_pos (by omega) (ev_pos (by omega) (ev_pos (by omega) (ev_pos ?_ ?_)))))
      · exact (by rw [eb]; have := hsz; unfold lparts at this; omega)
      · refine ih (i + 1) _ (by omega) ?_
        rw [ByteArray.size_append, eb]
        have := hsz
        unfold lparts at this
        omega
    · refine ev_neg h0 (ev_pos (by omega) (ev_pos (by omega) (ev_pos (by omega) (ev_pos ?_ ?_))))
      · exact (by have := hsz; unfold lparts at this; omega)
      · refine ih (i + 1) _ (by omega) ?_
        rw [ByteArray.size_append]
        have := hsz
        unfold lparts at this
        omega

theorem PathsParts : lighterlaw14_PathsParts.Pure := by
  intro l n _ _ hr hn
  refine Ev.rounds ?_
  unfold lighterlaw14_PathsParts.f
  by_cases h1 : (l.length : Int) > 60
  · exact ev_pos h1 (Ev.bind cleaned_ev3 (Ev.now _))
  · refine ev_neg h1 ?_
    have h2 : 0 ≤ n ∧ n < 256 := by simpa [rd] using rd_u8 (l := [n]) (by simpa using hn) 0
    exact parts_loop (by omega) hr n h2 l.length 0 ⟨#[]⟩ (by omega) (Nat.zero_le _)
end Go.Proofs.YtoklancgpmnhcaaDoor.Hand
