/- The program's Parse of names is the reference's, where their digests' are. By an AI agent. -/
import Derived.Test.YtofcjkbgieenlaaDoorPlainF
namespace Go.Proofs.YtofcjkbgieenlaaDoor.PM
open Go Go.Proofs Go.Proofs.YtofcjkbgieenlaaDoor.Hand
set_option maxRecDepth 100000
set_option linter.unusedVariables false
set_option linter.unusedSimpArgs false

theorem check_two (r : RefT) : checkS r = 0 ∨ checkS r = 10 := by
  unfold checkS
  generalize (!domainPS r.d || (!pathPS r.p || (!taggedS r || (!(r.b || eqD r.x zerosI) || (!knownS r || decide (((textS tellS r).size : Int) > 200)))))) = b
  cases b
  · exact .inl rfl
  · exact .inr rfl
theorem end_same (r : RefT) : pend r = rend r := by
  unfold pend rend
  rw [← check_same]
  rcases check_two r with h | h <;> rw [h] <;> rfl
theorem len1 (p : ByteArray) : (((cutAll p 47).length : Int) == 1) = !hasSlash p := by
  have h := len2 p
  have hl := (cutAll_len p 47).1
  rw [← h]
  by_cases h1 : (cutAll p 47).length = 1
  · rw [h1]; rfl
  · rw [decide_eq_false (by omega), beq_eq_false_iff_ne]
    omega
theorem fin_same (d p t : ByteArray) (x : List Int) (b : Bool) : pfin d p t x b = rfin d p t x b := by
  unfold pfin rfin
  rw [end_same, end_same, len1]
theorem cutZ_extract {s : ByteArray} {c : UInt8} (h : cutF s c = true) : s.extract ((cutA s c).size + 1) s.size = cutZ s c := by
  obtain ⟨e, _⟩ := cut_true h
  apply li_inj
  rw [li_extract, List.take_of_length_le (by rw [li_size]; exact Nat.le_refl _), ← li_size (cutA s c)]
  have e2 : li s = (li (cutA s c) ++ [c]) ++ li (cutZ s c) := by rw [e]; simp
  rw [e2, List.drop_append_of_le_length (by simp)]
  simp
theorem mid_same (name t : ByteArray) (x : List Int) (b : Bool) : pmid name t x b = rmid name t x b := by
  unfold pmid rmid rdom
  rw [front_split]
  simp only [fin_same]
  cases hc : cutF name 47 && toldS (cutA name 47) with
  | false =>
    have hd : splitD name = ⟨#[]⟩ := by unfold splitD; rw [hc]; rfl
    have hr : splitR name = name := by unfold splitR; rw [hc]; rfl
    have he : isS (ByteArray.mk #[]) [] = true := (isS_nil _).2 rfl
    rw [hd, hr, he]
    rfl
  | true =>
    have hc' := hc
    rw [Bool.and_eq_true] at hc'
    have hd : splitD name = cutA name 47 := by unfold splitD; rw [hc]; rfl
    have hr : splitR name = cutZ name 47 := by unfold splitR; rw [hc]; rfl
    rw [hd, hr, told_empty hc'.2, cutZ_extract hc'.1]
    rfl
theorem get_li (s : ByteArray) (i : Nat) (h : i < s.size) : s.data[i]! = (li s)[i]'(by rw [li_size]; exact h) := by
  have h2 : i < s.data.size := h
  rw [getElem!_pos s.data i h2]
  simp [li]
theorem last_spec (s : ByteArray) : (Lib.lastIndexByte s 58 = -1 ∧ (58 : UInt8) ∉ li s) ∨
    ∃ i : Nat, Lib.lastIndexByte s 58 = (i : Int) ∧ i < s.size ∧ li s = (li s).take i ++ 58 :: (li s).drop (i + 1) ∧ (58 : UInt8) ∉ (li s).drop (i + 1) := by
  have back : ∀ b : UInt8, ((b.toNat : Nat) : Int) = 58 → b = 58 := fun b h => UInt8.toNat_inj.1 (by show b.toNat = 58; omega)
  rcases Lib.lastIdx_spec s 58 s.size with ⟨h, hn⟩ | ⟨i, h1, h2, h3, h4⟩
  · left
    refine ⟨h, fun hm => ?_⟩
    obtain ⟨j, hj, e⟩ := List.getElem_of_mem hm
    have hj' : j < s.size := by rw [← li_size]; exact hj
    have := hn j hj'
    rw [get_li s j hj', e] at this
    exact this rfl
  · right
    have hi : i < (li s).length := by rw [li_size]; exact h1
    rw [get_li s i h1] at h3
    have e := back _ h3
    refine ⟨i, h2, h1, ?_, fun hm => ?_⟩
    · rw [← e, ← List.drop_eq_getElem_cons hi, List.take_append_drop]
    · obtain ⟨j, hj, ej⟩ := List.getElem_of_mem hm
      rw [List.length_drop, li_size] at hj
      have := h4 (i + 1 + j) (by omega) (by omega)
      rw [get_li s (i + 1 + j) (by omega)] at this
      rw [List.getElem_drop] at ej
      rw [ej] at this
      exact this rfl
theorem tag_same (name : ByteArray) (x : List Int) (b : Bool) : ptag name x b = rtag name x b := by
  unfold ptag rtag
  simp only [mid_same, lastI]
  have hcut := cutAll_spl name 58
  rw [show ((58 : UInt8).toNat : Int) = 58 from rfl] at hcut
  have hall : ∀ (t : ByteArray) (a : Nat), li (t.extract a t.size) = (li t).drop a := fun t a => by
    rw [li_extract, List.take_of_length_le (by rw [li_size]; exact Nat.le_refl _)]
  rcases last_spec name with ⟨h1, h2⟩ | ⟨i, h1, h2, h3, h4⟩
  · have e : cutAll name 58 = [name] := by rw [hcut, spl_none h2]; simp
    simp only [h1]
    rw [e]
    rfl
  · have hs := spl_last h4 ((li name).take i)
    rw [← h3] at hs
    have hpos : 0 < (spl 58 ((li name).take i)).length := List.length_pos_iff.2 (spl_ne _ _)
    have hlen : (cutAll name 58).length = (spl 58 ((li name).take i)).length + 1 := by rw [hcut, hs]; simp
    have hlast : lastOf name = name.extract (i + 1) name.size := by
      unfold lastOf
      rw [hlen, Nat.add_sub_cancel, hcut, hs, List.map_append, List.getD_eq_getElem?_getD, List.getElem?_append_right (by simp), List.length_map, Nat.sub_self]
      apply li_inj
      rw [hall]
      rfl
    have hge : (i : Int) ≥ 0 := by omega
    simp only [h1, hge, decide_true, Int.toNat_natCast]
    rw [hlen, decide_eq_true (by omega : (((spl 58 ((li name).take i)).length + 1 : Nat) : Int) > 1), len1, hlast]
    have hsl : hasSlash (name.extract i name.size) = hasSlash (name.extract (i + 1) name.size) := by
      rw [hasSlash_cut, hasSlash_cut, Bool.eq_iff_iff, cutF_iff, cutF_iff, hall, hall]
      have hi : i < (li name).length := by rw [li_size]; exact h2
      have ed : (li name).drop i = 58 :: (li name).drop (i + 1) := by
        have hti : ((li name).take i).length = i := by rw [List.length_take]; omega
        have hx : (li name)[i]? = some 58 := by
          have hx : (li name)[i]? = ((li name).take i ++ 58 :: (li name).drop (i + 1))[i]? := congrArg (fun l : List UInt8 => l[i]?) h3
          rw [hx, List.getElem?_append_right (by omega), hti, Nat.sub_self]
          rfl
        rw [List.getElem?_eq_getElem hi] at hx
        rw [List.drop_eq_getElem_cons hi, Option.some.inj hx]
      rw [ed]
      constructor
      · intro h
        rcases List.mem_cons.1 h with h | h
        · exact absurd h (by decide)
        · exact h
      · exact fun h => List.mem_cons_of_mem _ h
    have hsz : name.size - (name.extract (i + 1) name.size).size - 1 = i := by
      rw [ByteArray.size_extract]
      omega
    rw [hsl, hsz]
theorem name_cut (s : ByteArray) : nameOf s = cutA s 64 := first_cut s 64
theorem parse_same (s : ByteArray) (hX : pparseX (cutZ s 64) = rparseX (cutZ s 64)) (hE : pparseE (cutZ s 64) = rparseE (cutZ s 64)) : pparse9 s = rparse12 s := by
  unfold pparse9 rparse12
  rw [name_cut]
  simp only [tag_same]
  cases hf : cutF s 64 with
  | false =>
    rw [cutA_none hf, decide_eq_false (by omega : ¬ (s.size : Int) < s.size)]
    rfl
  | true =>
    obtain ⟨e, _⟩ := cut_true hf
    have hlt : (cutA s 64).size < s.size := by
      have := congrArg List.length e
      rw [li_size, List.length_append, li_size, List.length_cons] at this
      omega
    have hp : pinOf s = cutZ s 64 := by unfold pinOf; rw [name_cut]; exact cutZ_extract hf
    rw [decide_eq_true (by omega : ((cutA s 64).size : Int) < s.size), hp, hX, hE]
end Go.Proofs.YtofcjkbgieenlaaDoor.PM
