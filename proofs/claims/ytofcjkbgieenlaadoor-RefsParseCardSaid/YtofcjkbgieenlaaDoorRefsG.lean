/- Contracts of functions of the reference of names: text. By an AI agent. -/
import Derived.Test.YtofcjkbgieenlaaDoorRefsF
namespace Go.Proofs.YtofcjkbgieenlaaDoor.PM
open Go Go.Proofs
set_option maxRecDepth 100000
set_option linter.unusedVariables false

/-- A name's cells. -/
def refL (d p t : ByteArray) (x : List Int) (b : Bool) : List Value := .string d :: .string p :: .string t :: (digL x ++ [.bool b])
/-- What a name is told by. -/
structure RefT where
  d : ByteArray
  p : ByteArray
  t : ByteArray
  x : List Int
  b : Bool
def RefT.v (r : RefT) : Value := .agg ⟨refL r.d r.p r.t r.x r.b⟩
def isRef : List Value → Option RefT
  | .string d :: .string p :: .string t :: l => match l.drop 32 with
    | [.bool b] => bif isDig (l.take 32) then some ⟨d, p, t, decI (l.take 32), b⟩ else none
    | _ => none
  | _ => none
structure RefOk (r : RefT) : Prop where
  d : r.d.size < 2 ^ 30
  p : r.p.size < 2 ^ 30
  t : r.t.size < 2 ^ 30
  x : bytesL r.x
  n : r.x.length = 32
theorem isRef_some {l : List Value} {r : RefT} (h : isRef l = some r) : l = refL r.d r.p r.t r.x r.b ∧ r.x.length = 32 := by
  unfold isRef at h
  split at h
  · rename_i d p t m
    split at h
    · rename_i b hb
      cases hd : isDig (m.take 32) with
      | false => rw [hd] at h; cases h
      | true =>
        rw [hd] at h
        obtain rfl := Option.some.inj h
        have h1 := dig_of hd
        have h2 : m = m.take 32 ++ m.drop 32 := (List.take_append_drop 32 m).symm
        refine ⟨?_, ?_⟩
        · unfold refL digL
          simp only
          rw [← h1, ← hb, ← h2]
        · simp only [isDig, Bool.and_eq_true] at hd
          have h3 := congrArg List.length (enc_decI hd.1)
          rw [List.length_map] at h3
          rw [h3]
          exact Nat.eq_of_beq_eq_true hd.2
    · cases h
  · cases h
theorem plain_ref {l : List Value} {r : RefT} (h : isRef l = some r) : plainL l = true := by
  rw [(isRef_some h).1]; rfl
def textS (tell : List Int → ByteArray) (r : RefT) : ByteArray :=
  let s := r.d ++ ⟨#[47]⟩ ++ r.p
  let s := bif !isS r.t [] then s ++ ⟨#[58]⟩ ++ r.t else s
  bif r.b then s ++ ⟨#[64]⟩ ++ tell r.x else s
def textG : Pure
  | [.agg ⟨l⟩] => match isRef l with
    | some r => some (RefOk r, .string (textS tellS r))
    | none => none
  | _ => none
theorem tellFrom_size {x : List Int} (hx : bytesL x) : ∀ (d i : Nat) (s : ByteArray), (tellFrom x d i s).size = s.size + 2 * d
  | 0, i, s => by simp [tellFrom]
  | d + 1, i, s => by
    have hb := hx i
    have hq : (x.getD i 0).tdiv 16 = x.getD i 0 / 16 := Int.tdiv_eq_ediv_of_nonneg hb.1
    have hr : (x.getD i 0).tmod 16 = x.getD i 0 % 16 := Int.tmod_eq_emod_of_nonneg hb.1
    have h1 := hexS_size (c := (x.getD i 0).tdiv 16) (by omega) (by omega)
    have h2 := hexS_size (c := (x.getD i 0).tmod 16) (by omega) (by omega)
    unfold tellFrom
    rw [tellFrom_size hx d (i + 1), ByteArray.size_append, ByteArray.size_append, h1, h2]
    omega
theorem tellS_size {x : List Int} (hx : bytesL x) : (tellS x).size = 71 := tellFrom_size hx 32 0 headT
theorem text_ok : PureOk Tryd.prog 27 textG := by
  refine .of_run (call := callOf [(41, pureS tellG)]) (hint := hints 27) (tb := noTab) hm (callOf_cons tell_ok.spec callOf_nil) Tryd.func27 (by kernel_rfl) rfl (by kernel_rfl) (by repeat' first | exact trivial | constructor |  (intro _ h; cases h)) fun args c r h => ?_
  unfold textG at h
  split at h
  · rename_i l
    split at h
    · rename_i r hr
      cases h
      refine ⟨by show (plainL l && true) = true; rw [plain_ref hr]; rfl, fun hs => ⟨rfl, 1, fun K hK => ?_⟩⟩
      obtain ⟨h1, h2⟩ := isRef_some hr
      rw [h1]
      obtain ⟨d, p, t, x, b⟩ := r
      obtain ⟨k1, k2, k3, k4, k5⟩ := hs
      simp only at k1 k2 k3 k4 k5 h2
      have ht : (tellS x).size = 71 := tellS_size k4
      have hd := decI_digL h2
      refine to (R := need (decide (((RefT.mk d p t x b).d.size + 1) < 9223372036854775808)) (need (decide ((((RefT.mk d p t x b).d ++ (ByteArray.mk #[47])).size + (RefT.mk d p t x b).p.size) < 9223372036854775808)) (bcase (!((RefT.mk d p t x b).t.toList == (ByteArray.mk #[]).toList)) (need (decide (((((RefT.mk d p t x b).d ++ (ByteArray.mk #[47])) ++ (RefT.mk d p t x b).p).size + 1) < 9223372036854775808)) (need (decide ((((((RefT.mk d p t x b).d ++ (ByteArray.mk #[47])) ++ (RefT.mk d p t x b).p) ++ (ByteArray.mk #[58])).size + (RefT.mk d p t x b).t.size) < 9223372036854775808)) (bcase (RefT.mk d p t x b).b (need (decide (((((((RefT.mk d p t x b).d ++ (ByteArray.mk #[47])) ++ (RefT.mk d p t x b).p) ++ (ByteArray.mk #[58])) ++ (RefT.mk d p t x b).t).size + 1) < 9223372036854775808)) ((bytesL (decI (digL (RefT.mk d p t x b).x))) ∧ (need (decide ((((((((RefT.mk d p t x b).d ++ (ByteArray.mk #[47])) ++ (RefT.mk d p t x b).p) ++ (ByteArray.mk #[58])) ++ (RefT.mk d p t x b).t) ++ (ByteArray.mk #[64])).size + (tellS (decI (digL (RefT.mk d p t x b).x))).size) < 9223372036854775808)) (K (.string (((((((RefT.mk d p t x b).d ++ (ByteArray.mk #[47])) ++ (RefT.mk d p t x b).p) ++ (ByteArray.mk #[58])) ++ (RefT.mk d p t x b).t) ++ (ByteArray.mk #[64])) ++ (tellS (decI (digL (RefT.mk d p t x b).x))))) [])))) (K (.string (((((RefT.mk d p t x b).d ++ (ByteArray.mk #[47])) ++ (RefT.mk d p t x b).p) ++ (ByteArray.mk #[58])) ++ (RefT.mk d p t x b).t)) [])))) (bcase (RefT.mk d p t x b).b (need (decide (((((RefT.mk d p t x b).d ++ (ByteArray.mk #[47])) ++ (RefT.mk d p t x b).p).size + 1) < 9223372036854775808)) ((bytesL (decI (digL (RefT.mk d p t x b).x))) ∧ (need (decide ((((((RefT.mk d p t x b).d ++ (ByteArray.mk #[47])) ++ (RefT.mk d p t x b).p) ++ (ByteArray.mk #[64])).size + (tellS (decI (digL (RefT.mk d p t x b).x))).size) < 9223372036854775808)) (K (.string (((((RefT.mk d p t x b).d ++ (ByteArray.mk #[47])) ++ (RefT.mk d p t x b).p) ++ (ByteArray.mk #[64])) ++ (tellS (decI (digL (RefT.mk d p t x b).x))))) [])))) (K (.string (((RefT.mk d p t x b).d ++ (ByteArray.mk #[47])) ++ (RefT.mk d p t x b).p)) []))))) (by kernel_rfl) ?_
      simp only [hd]
      clear h1 hr hd
      ((repeat' first | with_reducible exact trivial | with_reducible refine need_of (by first | first | with_reducible assumption | with_reducible exact pos_of (by assumption) | with_reducible exact pos_of' (by assumption) | omega | (simp only [ByteArray.size_append, sz1, decide_eq_true_eq, *]; omega) | decide | (simp only [Bool.and_true, Bool.and_eq_true, decide_eq_true_eq, ByteArray.size_extract, ByteArray.size_append, sz1, Int.toNat_natCast, List.getD_eq_getElem?_getD, beq_iff_eq, decide_eq_false_iff_not] at *; omega) | ((repeat' constructor) <;> first | rfl | first | with_reducible assumption | with_reducible exact pos_of (by assumption) | with_reducible exact pos_of' (by assumption) | omega | (simp only [ByteArray.size_append, sz1, decide_eq_true_eq, *]; omega) | decide | (simp only [Bool.and_true, Bool.and_eq_true, decide_eq_true_eq, ByteArray.size_extract, ByteArray.size_append, sz1, Int.toNat_natCast, List.getD_eq_getElem?_getD, beq_iff_eq, decide_eq_false_iff_not] at *; omega))) ?_ | with_reducible refine And.intro (by first | first | with_reducible assumption | with_reducible exact pos_of (by assumption) | with_reducible exact pos_of' (by assumption) | omega | (simp only [ByteArray.size_append, sz1, decide_eq_true_eq, *]; omega) | decide | (simp only [Bool.and_true, Bool.and_eq_true, decide_eq_true_eq, ByteArray.size_extract, ByteArray.size_append, sz1, Int.toNat_natCast, List.getD_eq_getElem?_getD, beq_iff_eq, decide_eq_false_iff_not] at *; omega) | ((repeat' constructor) <;> first | rfl | first | with_reducible assumption | with_reducible exact pos_of (by assumption) | with_reducible exact pos_of' (by assumption) | omega | (simp only [ByteArray.size_append, sz1, decide_eq_true_eq, *]; omega) | decide | (simp only [Bool.and_true, Bool.and_eq_true, decide_eq_true_eq, ByteArray.size_extract, ByteArray.size_append, sz1, Int.toNat_natCast, List.getD_eq_getElem?_getD, beq_iff_eq, decide_eq_false_iff_not] at *; omega))) ?_ | with_reducible refine bcase_not ?_ | with_reducible refine bcase_t (by assumption) ?_ | with_reducible refine bcase_f (by assumption) ?_ | with_reducible refine bcase_of (fun h => ?_) (fun h => ?_)) <;> (have := hK []; simp only [isS, textS, *, cond_true, cond_false, Bool.not_true, Bool.not_false, Bool.and_true, Bool.and_false, Bool.true_and, Bool.false_and, Bool.or_true, Bool.or_false, Bool.true_or, Bool.false_or] at this ⊢; exact this))
    · cases h
  · cases h
end Go.Proofs.YtofcjkbgieenlaaDoor.PM
