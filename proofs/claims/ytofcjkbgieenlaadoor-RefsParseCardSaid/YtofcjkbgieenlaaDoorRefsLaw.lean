/- The walks of the statements RefsTell and RefsParse. By an AI agent. -/
import Derived.Test.YtofcjkbgieenlaaDoorRefsZa
namespace Go.Proofs.YtofcjkbgieenlaaDoor.PM
open Go Go.Proofs Go.RowKit
set_option maxRecDepth 100000
set_option linter.unusedVariables false
set_option linter.unusedSimpArgs false

/-- Names that the statements speak of. -/
structure RefL (r : RefT) : Prop where
  x : bytesL r.x
  n : r.x.length = 32
theorem RefL.q {r : RefT} (h : RefL r) (h1 : r.d.size ≤ 300) (h2 : r.p.size ≤ 300) (h3 : r.t.size ≤ 300) : RefQ r := ⟨h1, by omega, h3, h.x, h.n⟩
/-- What the program tells is what the reference tells. -/
def SameR (r : RefT) : Prop := checkS r = rcheckS r ∧ ptextS r = rtextS r ∧ pshortS r = rshortS r
def law4G : Pure
  | [.agg ⟨l⟩] => match isRef l with
    | some r => some (RefL r ∧ (r.d.size ≤ 300 → r.p.size ≤ 300 → r.t.size ≤ 300 → SameR r), .bool true)
    | none => none
  | _ => none
theorem eqs (s : ByteArray) : (s.toList == s.toList) = true := beq_self_eq_true _
attribute [local irreducible] checkS rcheckS ptextS rtextS pshortS rshortS
theorem law4_ok : PureOk Tryd.prog 4 law4G := by
  refine .of_run (call := callOf [(8, pureS namedG), (15, pureS (refPG fun r => .int .i64 (checkS r))), (16, pureS rcheckG), (11, pureS (refPG fun r => .string (ptextS r))), (12, pureS (refG fun r => .string (rtextS r))), (13, pureS (refPG fun r => .string (pshortS r))), (14, pureS (refG fun r => .string (rshortS r)))]) (hint := hints 4) (tb := noTab) hm (callOf_cons named_ok.spec (callOf_cons check_ok.spec (callOf_cons rcheck_ok.spec (callOf_cons pText_ok.spec (callOf_cons rtext_ok.spec (callOf_cons short_ok.spec (callOf_cons rshort_ok.spec callOf_nil))))))) Tryd.func4 (by kernel_rfl) rfl (by kernel_rfl) (by repeat' first | exact trivial | constructor |  (intro _ h; cases h)) fun args c r h => ?_
  unfold law4G at h
  split at h
  · rename_i l
    split at h
    · rename_i r hr
      cases h
      refine ⟨by show (plainL l && true) = true; rw [plain_ref hr]; rfl, fun hs => ⟨rfl, 1, fun K hK => ?_⟩⟩
      obtain ⟨h1, h2⟩ := isRef_some hr
      rw [h1]
      have hd := decI_digL h2
      have he : RefT.mk r.d r.p r.t (decI (digL r.x)) r.b = r := by rw [hd]
      have hK := hK []
      refine to (R := bcase (decide ((↑r.d.size : Int) > (300 : Int))) (True ∧ (K (.bool true) [])) (bcase (decide ((↑r.p.size : Int) > (300 : Int))) (True ∧ (K (.bool true) [])) (bcase (decide ((↑r.t.size : Int) > (300 : Int))) (True ∧ (K (.bool true) [])) ((RefP (RefT.mk r.d r.p r.t (decI (digL r.x)) r.b)) ∧ ((RefOk (RefT.mk r.d r.p r.t (decI (digL r.x)) r.b)) ∧ (bcase ((checkS (RefT.mk r.d r.p r.t (decI (digL r.x)) r.b)) == (rcheckS (RefT.mk r.d r.p r.t (decI (digL r.x)) r.b))) ((RefP (RefT.mk r.d r.p r.t (decI (digL r.x)) r.b)) ∧ ((RefOk (RefT.mk r.d r.p r.t (decI (digL r.x)) r.b)) ∧ (bcase ((ptextS (RefT.mk r.d r.p r.t (decI (digL r.x)) r.b)).toList == (rtextS (RefT.mk r.d r.p r.t (decI (digL r.x)) r.b)).toList) ((RefP (RefT.mk r.d r.p r.t (decI (digL r.x)) r.b)) ∧ ((RefOk (RefT.mk r.d r.p r.t (decI (digL r.x)) r.b)) ∧ (bcase ((pshortS (RefT.mk r.d r.p r.t (decI (digL r.x)) r.b)).toList == (rshortS (RefT.mk r.d r.p r.t (decI (digL r.x)) r.b)).toList) (True ∧ (K (.bool true) [])) (K (.bool false) [])))) (K (.bool false) [])))) (K (.bool false) []))))))) (by kernel_rfl) ?_
      simp only [he]
      clear h1 hr hd he
      refine bcase_of (fun _ => ⟨trivial, hK⟩) (fun a => bcase_of (fun _ => ⟨trivial, hK⟩) (fun b => bcase_of (fun _ => ⟨trivial, hK⟩) (fun c => ?_)))
      have a := of_decide_eq_false a
      have b := of_decide_eq_false b
      have c := of_decide_eq_false c
      have q := hs.1.q (by omega) (by omega) (by omega)
      have p := q.toP
      have ok := p.ok
      obtain ⟨e1, e2, e3⟩ := hs.2 (by omega) (by omega) (by omega)
      rw [e1, e2, e3]
      exact ⟨p, ok, bcase_t (beq_self_eq_true _) ⟨p, ok, bcase_t (eqs _) ⟨p, ok, bcase_t (eqs _) ⟨trivial, hK⟩⟩⟩⟩
    · cases h
  · cases h
theorem eqF_self (x : List Int) : ∀ n i, eqF x x n i = true
  | 0, _ => rfl
  | n + 1, i => by unfold eqF; rw [beq_self_eq_true, eqF_self x n (i + 1)]; rfl
theorem eqD_self (x : List Int) : eqD x x = true := eqF_self x 32 0
def law3G : Pure
  | [.string s] => some (s.size < 2 ^ 62 ∧ (s.size ≤ 300 → pparse9 s = rparse12 s ∧ SameR (pparse9 s).1), .bool true)
  | _ => none
attribute [local irreducible] pparse9 rparse12
theorem law3_ok : PureOk Tryd.prog 3 law3G := by
  refine .of_run (call := callOf [(8, pureS namedG), (9, pureS pparse9G), (10, pureS rparse12G), (11, pureS (refPG fun r => .string (ptextS r))), (12, pureS (refG fun r => .string (rtextS r))), (13, pureS (refPG fun r => .string (pshortS r))), (14, pureS (refG fun r => .string (rshortS r)))]) (hint := hints 3) (tb := noTab) hm (callOf_cons named_ok.spec (callOf_cons pparse9_ok.spec (callOf_cons rparse12_ok.spec (callOf_cons pText_ok.spec (callOf_cons rtext_ok.spec (callOf_cons short_ok.spec (callOf_cons rshort_ok.spec callOf_nil))))))) Tryd.func3 (by kernel_rfl) rfl (by kernel_rfl) (by repeat' first | exact trivial | constructor |  (intro _ h; cases h)) fun args c r h => ?_
  unfold law3G at h
  split at h
  · rename_i s
    cases h
    refine ⟨rfl, fun hs => ⟨rfl, 1, fun K hK => ?_⟩⟩
    have hK := hK []
    refine to (R := bcase (decide ((↑s.size : Int) > (300 : Int))) (True ∧ (K (.bool true) [])) ((s.size < 536870912) ∧ ((s.size < 536870912) ∧ (bcase (((pparse9 s).fst.d.toList == (rparse12 s).fst.d.toList) && (((pparse9 s).fst.p.toList == (rparse12 s).fst.p.toList) && (((pparse9 s).fst.t.toList == (rparse12 s).fst.t.toList) && ((eqD (pparse9 s).fst.x (rparse12 s).fst.x) && (((pparse9 s).fst.b == (rparse12 s).fst.b) && true))))) (bcase ((pparse9 s).snd == (rparse12 s).snd) ((RefP (RefT.mk (pparse9 s).fst.d (pparse9 s).fst.p (pparse9 s).fst.t (decI (digL (pparse9 s).fst.x)) (pparse9 s).fst.b)) ∧ ((RefOk (RefT.mk (rparse12 s).fst.d (rparse12 s).fst.p (rparse12 s).fst.t (decI (digL (rparse12 s).fst.x)) (rparse12 s).fst.b)) ∧ (bcase ((ptextS (RefT.mk (pparse9 s).fst.d (pparse9 s).fst.p (pparse9 s).fst.t (decI (digL (pparse9 s).fst.x)) (pparse9 s).fst.b)).toList == (rtextS (RefT.mk (rparse12 s).fst.d (rparse12 s).fst.p (rparse12 s).fst.t (decI (digL (rparse12 s).fst.x)) (rparse12 s).fst.b)).toList) ((RefP (RefT.mk (pparse9 s).fst.d (pparse9 s).fst.p (pparse9 s).fst.t (decI (digL (pparse9 s).fst.x)) (pparse9 s).fst.b)) ∧ ((RefOk (RefT.mk (rparse12 s).fst.d (rparse12 s).fst.p (rparse12 s).fst.t (decI (digL (rparse12 s).fst.x)) (rparse12 s).fst.b)) ∧ (bcase ((pshortS (RefT.mk (pparse9 s).fst.d (pparse9 s).fst.p (pparse9 s).fst.t (decI (digL (pparse9 s).fst.x)) (pparse9 s).fst.b)).toList == (rshortS (RefT.mk (rparse12 s).fst.d (rparse12 s).fst.p (rparse12 s).fst.t (decI (digL (rparse12 s).fst.x)) (rparse12 s).fst.b)).toList) (True ∧ (K (.bool true) [])) (K (.bool false) [])))) (K (.bool false) [])))) (K (.bool false) [])) (K (.bool false) []))))) (by kernel_rfl) ?_
    refine bcase_of (fun _ => ⟨trivial, hK⟩) (fun a => ?_)
    have a := of_decide_eq_false a
    obtain ⟨e, e1, e2, e3⟩ := hs.2 (by omega)
    have q := pparse9_q s
    have p := q.toP
    have ok := p.ok
    have he : RefT.mk (pparse9 s).1.d (pparse9 s).1.p (pparse9 s).1.t (decI (digL (pparse9 s).1.x)) (pparse9 s).1.b = (pparse9 s).1 := by rw [decI_digL q.n]
    simp only [← e, he, e2, e3]
    have hc : (((pparse9 s).1.d.toList == (pparse9 s).1.d.toList) && (((pparse9 s).1.p.toList == (pparse9 s).1.p.toList) && (((pparse9 s).1.t.toList == (pparse9 s).1.t.toList) && ((eqD (pparse9 s).1.x (pparse9 s).1.x) && (((pparse9 s).1.b == (pparse9 s).1.b) && true))))) = true := by
      rw [eqs, eqs, eqs, eqD_self, beq_self_eq_true]
      rfl
    exact ⟨by omega, by omega, bcase_t hc (bcase_t (beq_self_eq_true _) ⟨p, ok, bcase_t (eqs _) ⟨p, ok, bcase_t (eqs _) ⟨trivial, hK⟩⟩⟩)⟩
  · cases h
end Go.Proofs.YtofcjkbgieenlaaDoor.PM
