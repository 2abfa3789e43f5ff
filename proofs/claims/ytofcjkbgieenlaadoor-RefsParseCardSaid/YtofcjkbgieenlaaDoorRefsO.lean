/- Contracts of digests.Text, refs.text. By an AI agent. -/
import Derived.Test.YtofcjkbgieenlaaDoorDigits12
namespace Go.Proofs.YtofcjkbgieenlaaDoor.PM
open Go Go.Proofs Go.RowKit
set_option maxRecDepth 100000
set_option linter.unusedVariables false
set_option linter.unusedSimpArgs false

theorem text42_ok : PureOk Tryd.prog 42 tellG := by
  refine .of_run (call := callOf [(58, pureS digitsG)]) (hint := hints 42) (tb := noTab) hm (callOf_cons digits_ok.spec callOf_nil) Tryd.func42 (by kernel_rfl) rfl (by kernel_rfl) (by repeat' first | exact trivial | constructor |  (intro _ h; cases h)) fun args c r h => ?_
  unfold tellG at h
  split at h
  · rename_i l
    cases hd : isDig l with
    | false => rw [hd] at h; cases h
    | true =>
      rw [hd] at h
      cases h
      have hl := isDig_len hd
      have e : l = digL (decI l) := dig_of hd
      obtain ⟨x, hx⟩ : ∃ x, x = decI l := ⟨_, rfl⟩
      rw [← hx] at e hl ⊢
      subst e
      refine ⟨by show (plainL (digL x) && true) = true; rw [plainL_dig]; rfl, fun hs => ⟨rfl, 1, fun K hK => ?_⟩⟩
      have hz := hexN_len x 32
      have ht := tellS_hex x hs hl
      have hd2 := decI_digL hl
      have hq : (ByteArray.mk (hexN x 32).toArray).size = (hexN x 32).length := mk_size _
      refine to (R := (bytesL (decI (digL x))) ∧ (need (decide ((7 + (ByteArray.mk (hexN (decI (digL x)) 32).toArray).size) < 9223372036854775808)) (K (.string ((ByteArray.mk #[115, 104, 97, 50, 53, 54, 58]) ++ (ByteArray.mk (hexN (decI (digL x)) 32).toArray))) []))) (by kernel_rfl) ?_
      simp only [hd2]
      refine ⟨hs, need_of (by rw [hq]; simp; omega) ?_⟩
      have := hK []
      rw [ht] at this
      exact this
  · cases h
theorem ptext_ok : PureOk Tryd.prog 26 textG := by
  refine .of_run (call := callOf [(42, pureS tellG)]) (hint := hints 26) (tb := noTab) hm (callOf_cons text42_ok.spec callOf_nil) Tryd.func26 (by kernel_rfl) rfl (by kernel_rfl) (by repeat' first | exact trivial | constructor |  (intro _ h; cases h)) fun args c r h => ?_
  unfold textG at h
  split at h
  · rename_i l
    split at h
    · rename_i r hr
      cases h
      refine ⟨by show (plainL l && true) = true; rw [plain_ref hr]; rfl, fun hs => ⟨rfl, 1, fun K hK => ?_⟩⟩
      obtain ⟨h1, h2⟩ := isRef_some hr
      rw [h1]
      obtain ⟨k1, k2, k3, k4, k5⟩ := hs
      have ht : (tellS r.x).size = 71 := tellS_size k4
      have hd := decI_digL h2
      simp only [textS, isS] at hK
      refine to (R := need (decide ((r.d.size + 1) < 9223372036854775808)) (need (decide (((r.d ++ (ByteArray.mk #[47])).size + r.p.size) < 9223372036854775808)) (bcase (!(r.t.toList == (ByteArray.mk #[]).toList)) (need (decide ((1 + r.t.size) < 9223372036854775808)) (need (decide ((((r.d ++ (ByteArray.mk #[47])) ++ r.p).size + ((ByteArray.mk #[58]) ++ r.t).size) < 9223372036854775808)) (bcase r.b ((bytesL (decI (digL r.x))) ∧ (need (decide ((1 + (tellS (decI (digL r.x))).size) < 9223372036854775808)) (need (decide (((((r.d ++ (ByteArray.mk #[47])) ++ r.p) ++ ((ByteArray.mk #[58]) ++ r.t)).size + ((ByteArray.mk #[64]) ++ (tellS (decI (digL r.x)))).size) < 9223372036854775808)) (K (.string ((((r.d ++ (ByteArray.mk #[47])) ++ r.p) ++ ((ByteArray.mk #[58]) ++ r.t)) ++ ((ByteArray.mk #[64]) ++ (tellS (decI (digL r.x)))))) [])))) (K (.string (((r.d ++ (ByteArray.mk #[47])) ++ r.p) ++ ((ByteArray.mk #[58]) ++ r.t))) [])))) (bcase r.b ((bytesL (decI (digL r.x))) ∧ (need (decide ((1 + (tellS (decI (digL r.x))).size) < 9223372036854775808)) (need (decide ((((r.d ++ (ByteArray.mk #[47])) ++ r.p).size + ((ByteArray.mk #[64]) ++ (tellS (decI (digL r.x)))).size) < 9223372036854775808)) (K (.string (((r.d ++ (ByteArray.mk #[47])) ++ r.p) ++ ((ByteArray.mk #[64]) ++ (tellS (decI (digL r.x)))))) [])))) (K (.string ((r.d ++ (ByteArray.mk #[47])) ++ r.p)) []))))) (by kernel_rfl) ?_
      simp only [hd]
      clear h1 hr hd
      repeat' first | with_reducible exact trivial | with_reducible refine need_of (by first | first | with_reducible assumption | (simp only [List.length_cons, List.length_nil, Nat.zero_add, Nat.zero_lt_succ, decide_true, Bool.and_true, Bool.and_self]; done) | with_reducible exact pos_of (by assumption) | with_reducible exact pos_of' (by assumption) | omega | (simp only [ByteArray.size_append, sz1, decide_eq_true_eq, *]; omega) | decide | (simp only [Bool.and_true, Bool.and_eq_true, decide_eq_true_eq, ByteArray.size_extract, ByteArray.size_append, sz1, Int.toNat_natCast, List.getD_eq_getElem?_getD, beq_iff_eq, decide_eq_false_iff_not] at *; omega) | ((repeat' constructor) <;> first | rfl | first | with_reducible assumption | (simp only [List.length_cons, List.length_nil, Nat.zero_add, Nat.zero_lt_succ, decide_true, Bool.and_true, Bool.and_self]; done) | with_reducible exact pos_of (by assumption) | with_reducible exact pos_of' (by assumption) | omega | (simp only [ByteArray.size_append, sz1, decide_eq_true_eq, *]; omega) | decide | (simp only [Bool.and_true, Bool.and_eq_true, decide_eq_true_eq, ByteArray.size_extract, ByteArray.size_append, sz1, Int.toNat_natCast, List.getD_eq_getElem?_getD, beq_iff_eq, decide_eq_false_iff_not] at *; omega))) ?_ | with_reducible refine And.intro (by first | first | with_reducible assumption | (simp only [List.length_cons, List.length_nil, Nat.zero_add, Nat.zero_lt_succ, decide_true, Bool.and_true, Bool.and_self]; done) | with_reducible exact pos_of (by assumption) | with_reducible exact pos_of' (by assumption) | omega | (simp only [ByteArray.size_append, sz1, decide_eq_true_eq, *]; omega) | decide | (simp only [Bool.and_true, Bool.and_eq_true, decide_eq_true_eq, ByteArray.size_extract, ByteArray.size_append, sz1, Int.toNat_natCast, List.getD_eq_getElem?_getD, beq_iff_eq, decide_eq_false_iff_not] at *; omega) | ((repeat' constructor) <;> first | rfl | first | with_reducible assumption | (simp only [List.length_cons, List.length_nil, Nat.zero_add, Nat.zero_lt_succ, decide_true, Bool.and_true, Bool.and_self]; done) | with_reducible exact pos_of (by assumption) | with_reducible exact pos_of' (by assumption) | omega | (simp only [ByteArray.size_append, sz1, decide_eq_true_eq, *]; omega) | decide | (simp only [Bool.and_true, Bool.and_eq_true, decide_eq_true_eq, ByteArray.size_extract, ByteArray.size_append, sz1, Int.toNat_natCast, List.getD_eq_getElem?_getD, beq_iff_eq, decide_eq_false_iff_not] at *; omega))) ?_ | with_reducible refine bcase_not ?_ | with_reducible refine bcase_t rfl ?_ | with_reducible refine bcase_f rfl ?_ | with_reducible refine bcase_t (by assumption) ?_ | with_reducible refine bcase_f (by assumption) ?_ | (with_reducible refine bcase_of (fun hx => ?_) (fun hx => ?_) <;> try simp only [hx, bcase_tt, bcase_ff, Int.toNat_natCast, Bool.not_true, Bool.not_false, cond_true, cond_false, Bool.and_true, Bool.and_false, Bool.true_and, Bool.false_and, Bool.or_true, Bool.or_false, Bool.true_or, Bool.false_or] at hK)
      all_goals (have := hK []; simp only [ByteArray.append_assoc] at this ⊢; exact this)
    · cases h
  · cases h
end Go.Proofs.YtofcjkbgieenlaaDoor.PM
