/- The program's Text and Short are the reference's. By an AI agent. -/
import Derived.Test.YtofcjkbgieenlaaDoorPlainE
namespace Go.Proofs.YtofcjkbgieenlaaDoor.PM
open Go Go.Proofs Go.Proofs.YtofcjkbgieenlaaDoor.Hand
set_option maxRecDepth 100000
set_option linter.unusedVariables false
set_option linter.unusedSimpArgs false

theorem uniq_cut {c : UInt8} : ∀ (a b x y : List UInt8), c ∉ a → c ∉ b → a ++ c :: x = b ++ c :: y → a = b ∧ x = y
  | [], [], x, y, _, _, he => by simpa using he
  | [], b0 :: b, x, y, _, hb, he => by
    simp only [List.nil_append, List.cons_append, List.cons.injEq] at he
    exact absurd (by rw [he.1]; exact List.mem_cons_self) hb
  | a0 :: a, [], x, y, ha, _, he => by
    simp only [List.nil_append, List.cons_append, List.cons.injEq] at he
    exact absurd (by rw [← he.1]; exact List.mem_cons_self) ha
  | a0 :: a, b0 :: b, x, y, ha, hb, he => by
    simp only [List.cons_append, List.cons.injEq] at he
    obtain ⟨h1, h2⟩ := uniq_cut a b x y (fun h => ha (List.mem_cons_of_mem _ h)) (fun h => hb (List.mem_cons_of_mem _ h)) he.2
    exact ⟨by rw [he.1, h1], h2⟩
theorem text_same (r : RefT) : ptextS r = rtextS r := by
  unfold ptextS rtextS
  rw [check_same]
theorem textS_li (tell : List Int → ByteArray) (r : RefT) : ∃ z, li (textS tell r) = li r.d ++ 47 :: (li r.p ++ z) := by
  unfold textS
  cases isS r.t [] <;> cases r.b <;> simp only [Bool.not_false, Bool.not_true, cond_true, cond_false, li_append, List.append_assoc]
  · exact ⟨_, rfl⟩
  · exact ⟨_, rfl⟩
  · exact ⟨[], by simp [li]⟩
  · exact ⟨_, rfl⟩
theorem isS_li (s : ByteArray) (l : List UInt8) : isS s l = true ↔ li s = l := by
  have := isS_list (li s) l
  rw [ofL_li] at this
  exact this
theorem prefix_cut {s : ByteArray} {w : List UInt8} (hw : (47 : UInt8) ∉ w) : List.isPrefixOf (w ++ [47]) (li s) = (cutF s 47 && isS (cutA s 47) w) := by
  rw [Bool.eq_iff_iff, Bool.and_eq_true, isS_li, List.isPrefixOf_iff_prefix]
  constructor
  · rintro ⟨y, hy⟩
    have hy' : w ++ 47 :: y = li s := by rw [← hy]; simp
    have hf : cutF s 47 = true := (cutF_iff _ _).2 (by rw [← hy']; simp)
    obtain ⟨e, hn⟩ := cut_true hf
    rw [e] at hy'
    exact ⟨hf, (uniq_cut _ _ _ _ hw hn hy').1.symm⟩
  · rintro ⟨hf, hA⟩
    obtain ⟨e, hn⟩ := cut_true hf
    rw [hA] at e
    exact ⟨li (cutZ s 47), by rw [e]; simp⟩
theorem check_domain {r : RefT} (h : (checkS r != 0) = false) : domainPS r.d = true := by
  cases hd : domainPS r.d with
  | true => rfl
  | false =>
    unfold checkS at h
    rw [hd] at h
    simp only [Bool.not_false, Bool.true_or, cond_true] at h
    exact absurd h (by decide)
theorem untag_dp (r : RefT) : (untag r).d = r.d ∧ (untag r).p = r.p := by
  unfold untag
  cases isS r.t [108, 97, 116, 101, 115, 116] && !r.b <;> exact ⟨rfl, rfl⟩
theorem tp_drop {s t : ByteArray} (h : hpS s t = true) : tpS s t = s.extract t.size s.size := by
  apply li_inj
  have e : li (tpS s t) = (li s).drop (li t).length := by
    show Lib.trimPrefix (li s) (li t) = _
    unfold Lib.trimPrefix
    rw [if_pos h]
  rw [e, li_extract, List.take_of_length_le (by rw [li_size]; exact Nat.le_refl _), li_size]
theorem lib_cut (p : ByteArray) : (((cutAll p 47).length : Int) == 2 && isS ((cutAll p 47).getD 0 (ByteArray.mk #[])) [108, 105, 98, 114, 97, 114, 121]) = (hpS p libT && !hasSlash (tpS p libT)) := by
  have h2 := first_cut p 47
  have e := cutAll_cut p 47
  have e2 := cutAll_cut (cutZ p 47) 47
  rw [show ((47 : UInt8).toNat : Int) = 47 from rfl] at h2 e e2
  have hp : hpS p libT = (cutF p 47 && isS (cutA p 47) [108, 105, 98, 114, 97, 114, 121]) := prefix_cut (s := p) (w := [108, 105, 98, 114, 97, 114, 121]) (by decide)
  have hlen : (((cutAll p 47).length : Int) == 2) = (cutF p 47 && !cutF (cutZ p 47) 47) := by
    rw [e]
    cases cutF p 47 with
    | false => rfl
    | true =>
      rw [cond_true, List.length_cons, e2]
      cases cutF (cutZ p 47) 47 with
      | false => rfl
      | true =>
        have := (cutAll_len (cutZ (cutZ p 47) 47) 47).1
        rw [cond_true, List.length_cons, Bool.not_true, Bool.and_false, beq_eq_false_iff_ne]
        omega
  rw [h2, hlen, hp]
  cases hf : cutF p 47 with
  | false => rfl
  | true =>
    cases hA : isS (cutA p 47) [108, 105, 98, 114, 97, 114, 121] with
    | false => simp
    | true =>
      obtain ⟨ee, hn⟩ := cut_true hf
      have hpp : hpS p libT = true := by rw [hp, hf, hA]; rfl
      have et : tpS p libT = cutZ p 47 := by
        apply li_inj
        have e3 : li (tpS p libT) = (li p).drop 8 := by
          show Lib.trimPrefix (li p) (li libT) = _
          unfold Lib.trimPrefix
          rw [if_pos hpp]
          rfl
        rw [e3, ee, (isS_li _ _).1 hA]
        rfl
      rw [et, hasSlash_cut]
      simp
theorem short_same (r : RefT) : pshortS r = rshortS r := by
  unfold pshortS rshortS
  rw [← check_same]
  cases hc : checkS r != 0 with
  | true => rfl
  | false =>
    have hd := check_domain hc
    obtain ⟨u1, u2⟩ := untag_dp r
    obtain ⟨z, hz⟩ := textS_li tellS (untag r)
    rw [u1, u2] at hz
    have hn := domain_noSlash hd
    simp only [cond_false]
    obtain ⟨s, hs⟩ : ∃ s, s = textS tellS (untag r) := ⟨_, rfl⟩
    rw [← hs] at hz ⊢
    have hcut : cutF s 47 = true := (cutF_iff _ _).2 (by rw [hz]; simp)
    have hA : cutA s 47 = r.d := by
      obtain ⟨e, hn2⟩ := cut_true hcut
      rw [hz] at e
      exact li_inj (uniq_cut _ _ _ _ hn hn2 e).1.symm
    have hp : hpS s hubT = isS r.d [100, 111, 99, 107, 101, 114, 46, 105, 111] := by
      have := prefix_cut (s := s) (w := [100, 111, 99, 107, 101, 114, 46, 105, 111]) (by decide)
      rw [hcut, hA, Bool.true_and] at this
      exact this
    unfold shortOf
    rw [hp]
    cases hh : isS r.d [100, 111, 99, 107, 101, 114, 46, 105, 111] with
    | false => rfl
    | true =>
      rw [hh] at hp
      have et : tpS s hubT = s.extract 10 s.size := tp_drop hp
      have et2 : (tpS s hubT).extract 8 (tpS s hubT).size = s.extract 18 s.size := by
        rw [et]
        apply li_inj
        have hall : ∀ (t : ByteArray) (a : Nat), li (t.extract a t.size) = (li t).drop a := fun t a => by
          rw [li_extract, List.take_of_length_le (by rw [li_size]; exact Nat.le_refl _)]
        rw [hall, hall, hall, List.drop_drop]
      simp only [Bool.not_true, cond_false]
      rw [et2, et, Bool.decide_eq_true, lib_cut, front_split]
theorem same (r : RefT) : SameR r := ⟨check_same r, text_same r, short_same r⟩
end Go.Proofs.YtofcjkbgieenlaaDoor.PM
