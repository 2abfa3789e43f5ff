/- What Parse tells may be handed on; the chapter's names. By an AI agent. -/
import Derived.Test.YtofcjkbgieenlaaDoorRefsY
namespace Go.Proofs.YtofcjkbgieenlaaDoor.PM
open Go Go.Proofs Go.RowKit
set_option maxRecDepth 100000
set_option linter.unusedVariables false
set_option linter.unusedSimpArgs false

/-- A name of such parts as Parse puts together. -/
structure RefQ (r : RefT) : Prop where
  d : r.d.size ≤ 300
  p : r.p.size ≤ 310
  t : r.t.size ≤ 300
  x : bytesL r.x
  n : r.x.length = 32
theorem RefQ.toP {r : RefT} (h : RefQ r) : RefP r := by
  obtain ⟨h1, h2, h3, h4, h5⟩ := h
  exact ⟨⟨by omega, by omega, by omega, h4, h5⟩, by omega, by omega⟩
theorem zeroR_q : RefQ zeroR := ⟨by decide, by decide, by decide, zeros_bytes, rfl⟩
theorem pend_q (r : RefT) (h : RefQ r) : RefQ (pend r).1 := by
  unfold pend
  cases checkS r != 0
  · exact h
  · exact zeroR_q
theorem pfin_q {d p t : ByteArray} {x : List Int} {b : Bool} (hd : d.size ≤ 300) (hp : p.size ≤ 300) (ht : t.size ≤ 300) (hx : bytesL x) (hn : x.length = 32) : RefQ (pfin d p t x b).1 := by
  unfold pfin
  have hz : (libT ++ p).size = 8 + p.size := ByteArray.size_append
  cases isS d [100, 111, 99, 107, 101, 114, 46, 105, 111] && !hasSlash p
  · exact pend_q _ ⟨hd, by show p.size ≤ 310; omega, ht, hx, hn⟩
  · exact pend_q _ ⟨hd, by show (libT ++ p).size ≤ 310; omega, ht, hx, hn⟩
theorem pmid_q {name t : ByteArray} {x : List Int} {b : Bool} (hm : name.size ≤ 300) (ht : t.size ≤ 300) (hx : bytesL x) (hn : x.length = 32) : RefQ (pmid name t x b).1 := by
  unfold pmid
  have h1 := splitD_size name
  have h2 := splitR_size name
  cases isS (splitD name) [] || isS (splitD name) [105, 110, 100, 101, 120, 46, 100, 111, 99, 107, 101, 114, 46, 105, 111]
  · exact pfin_q (by omega) (by omega) ht hx hn
  · exact pfin_q (by decide) (by omega) ht hx hn
theorem ptag_q {name : ByteArray} {x : List Int} {b : Bool} (hm : name.size ≤ 300) (hx : bytesL x) (hn : x.length = 32) : RefQ (ptag name x b).1 := by
  unfold ptag
  have e : ∀ a b, (name.extract a b).size ≤ 300 := fun a b => by rw [ByteArray.size_extract]; omega
  cases decide (lastI name ≥ 0) && !hasSlash (name.extract (lastI name).toNat name.size)
  · cases b
    · exact pmid_q hm (by decide) hx hn
    · exact pmid_q hm (by decide) hx hn
  · simp only [cond_true]
    cases isS (name.extract ((lastI name).toNat + 1) name.size) []
    · exact pmid_q (e _ _) (e _ _) hx hn
    · exact zeroR_q
theorem pparse9_q (s : ByteArray) : RefQ (pparse9 s).1 := by
  unfold pparse9
  have h1 := cutA_size s 64
  cases h : decide ((s.size : Int) > 200)
  · have := of_decide_eq_false h
    simp only [cond_false]
    cases cutF s 64
    · exact ptag_q (by omega) zeros_bytes rfl
    · simp only [cond_true]
      cases pparseE (cutZ s 64) != 0
      · exact ptag_q (by omega) (pparse_bytes _).1 (pparse_bytes _).2
      · exact zeroR_q
  · exact zeroR_q
abbrev shaT : ByteArray := (ByteArray.mk #[97, 47, 98, 64, 115, 104, 97, 50, 53, 54, 58, 48, 49, 50, 51, 52, 53, 54, 55, 56, 57, 97, 98, 99, 100, 101, 102, 48, 49, 50, 51, 52, 53, 54, 55, 56, 57, 97, 98, 99, 100, 101, 102, 48, 49, 50, 51, 52, 53, 54, 55, 56, 57, 97, 98, 99, 100, 101, 102, 48, 49, 50, 51, 52, 53, 54, 55, 56, 57, 97, 98, 99, 100, 101, 102])
theorem n1 : pparse9 (ByteArray.mk #[98, 117, 115, 121, 98, 111, 120]) = (⟨(ByteArray.mk #[100, 111, 99, 107, 101, 114, 46, 105, 111]), (ByteArray.mk #[108, 105, 98, 114, 97, 114, 121, 47, 98, 117, 115, 121, 98, 111, 120]), (ByteArray.mk #[108, 97, 116, 101, 115, 116]), zerosL, false⟩, 0) := by kernel_rfl
theorem n1t : ptextS ⟨(ByteArray.mk #[100, 111, 99, 107, 101, 114, 46, 105, 111]), (ByteArray.mk #[108, 105, 98, 114, 97, 114, 121, 47, 98, 117, 115, 121, 98, 111, 120]), (ByteArray.mk #[108, 97, 116, 101, 115, 116]), zerosL, false⟩ = (ByteArray.mk #[100, 111, 99, 107, 101, 114, 46, 105, 111, 47, 108, 105, 98, 114, 97, 114, 121, 47, 98, 117, 115, 121, 98, 111, 120, 58, 108, 97, 116, 101, 115, 116]) := by kernel_rfl
theorem n1s : pshortS ⟨(ByteArray.mk #[100, 111, 99, 107, 101, 114, 46, 105, 111]), (ByteArray.mk #[108, 105, 98, 114, 97, 114, 121, 47, 98, 117, 115, 121, 98, 111, 120]), (ByteArray.mk #[108, 97, 116, 101, 115, 116]), zerosL, false⟩ = (ByteArray.mk #[98, 117, 115, 121, 98, 111, 120]) := by kernel_rfl
theorem n2 : pparse9 (ByteArray.mk #[108, 111, 99, 97, 108, 104, 111, 115, 116, 47, 97, 58, 49]) = (⟨(ByteArray.mk #[108, 111, 99, 97, 108, 104, 111, 115, 116]), (ByteArray.mk #[97]), (ByteArray.mk #[49]), zerosL, false⟩, 0) := by kernel_rfl
abbrev shaX : List Int := [1, 35, 69, 103, 137, 171, 205, 239, 1, 35, 69, 103, 137, 171, 205, 239, 1, 35, 69, 103, 137, 171, 205, 239, 1, 35, 69, 103, 137, 171, 205, 239]
theorem n3 : pparse9 shaT = (⟨(ByteArray.mk #[100, 111, 99, 107, 101, 114, 46, 105, 111]), (ByteArray.mk #[97, 47, 98]), ⟨#[]⟩, shaX, true⟩, 0) := by kernel_rfl
theorem n3s : pshortS ⟨(ByteArray.mk #[100, 111, 99, 107, 101, 114, 46, 105, 111]), (ByteArray.mk #[97, 47, 98]), ⟨#[]⟩, shaX, true⟩ = shaT := by kernel_rfl
theorem n4 : pparse9 (ByteArray.mk #[65]) = (zeroR, 10) := by kernel_rfl
theorem n5 : pparse9 (ByteArray.mk #[97, 46, 46, 98]) = (zeroR, 10) := by kernel_rfl
theorem n6 : pparse9 (ByteArray.mk #[97, 58]) = (zeroR, 10) := by kernel_rfl
theorem n7 : pshortS ⟨(ByteArray.mk #[100, 111, 99, 107, 101, 114, 46, 105, 111]), (ByteArray.mk #[97, 46, 98, 47, 99]), (ByteArray.mk #[108, 97, 116, 101, 115, 116]), zerosL, false⟩ = (ByteArray.mk #[100, 111, 99, 107, 101, 114, 46, 105, 111, 47, 97, 46, 98, 47, 99]) := by kernel_rfl
end Go.Proofs.YtofcjkbgieenlaaDoor.PM
