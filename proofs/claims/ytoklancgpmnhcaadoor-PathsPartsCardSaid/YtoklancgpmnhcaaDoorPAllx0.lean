/- Functions of the program as plain Lean functions, and that the calls come to these: written by a program of this session. By an AI agent. -/
import Derived.Test.YtoklancgpmnhcaaDoorProg
import Derived.ChangeKeysEq
import Derived.Test.YtoklancgpmnhcaaDoorClean
import Derived.Below
import Derived.Deep.Draws
import Derived.Deep.AppendLies
import Derived.Maps.AppendAt
import Derived.OwnWalk
import Derived.Laws.BytesArg
import Derived.Laws.MakeOwn
import Derived.Laws.OwnMore
import Derived.Deep.OwnRows
import Derived.Tactics
import Derived.Lib.ConvBytes
import Derived.Laws.Slices
import Derived.WalkKit
import Derived.KernelRfl
import Derived.RowKit3
import Derived.Deep.LoopGhost
import Derived.Deep.QuietTactic
import Derived.BigQuiet
import Derived.WideLaws
import Derived.Deep.DeepCutAuto
import Derived.Deep.CutBlock
import Derived.Deep.RegionHeld3
import Derived.Laws.Rows
import Derived.Lib.AppendStr
import Derived.ArgAppend
import Derived.Laws.IdiomCopy
import Derived.OrdersHeld
import Derived.Laws.BitsLemmas
import Derived.RowKit
import Derived.Test.YtoklancgpmnhcaaDoorWWords
import Derived.Test.YtoklancgpmnhcaaDoorWLast
import Derived.Test.YtoklancgpmnhcaaDoorWTab
import Derived.Test.YtoklancgpmnhcaaDoorWFour
import Derived.Test.YtoklancgpmnhcaaDoorWQPut
import Derived.Test.YtoklancgpmnhcaaDoorWApart
import Derived.Test.YtoklancgpmnhcaaDoorWArr
import Derived.Test.YtoklancgpmnhcaaDoorWZeros
import Derived.Test.YtoklancgpmnhcaaDoorWFoot
import Derived.Test.YtoklancgpmnhcaaDoorWKept
import Derived.Test.YtoklancgpmnhcaaDoorWShare
import Derived.Test.YtoklancgpmnhcaaDoorWN
import Derived.Test.YtoklancgpmnhcaaDoorWFootNe
import Derived.Test.YtoklancgpmnhcaaDoorWAt
import Derived.Test.YtoklancgpmnhcaaDoorWEqStruct
import Derived.Test.YtoklancgpmnhcaaDoorWRepsOne
import Derived.Test.YtoklancgpmnhcaaDoorWInv
import Derived.Test.YtoklancgpmnhcaaDoorWInvWords
import Derived.Test.YtoklancgpmnhcaaDoorWGuard
import Derived.Test.YtoklancgpmnhcaaDoorWNEv
import Derived.Test.YtoklancgpmnhcaaDoorWMore
namespace Go.Proofs.YtoklancgpmnhcaaDoor.PAll
open Go.RowKit Go.Proofs.YtoklancgpmnhcaaDoorW.PrintWords Go.Proofs.YtoklancgpmnhcaaDoorW.PrintLast Go.Proofs.YtoklancgpmnhcaaDoorW.PrintMore
attribute [local go_sem] max2_int min2_int max_two min_two max_three min_three max_four min_four   -- for this text's walks alone
set_option linter.unusedVariables false
set_option linter.unusedSimpArgs false



def errW : Option Int → Value
  | none => .nilIface
  | some c => .iface 0 (.int .i64 c)
theorem errW_none : errW none = .nilIface := rfl
theorem errW_some (c : Int) : errW (some c) = .iface 0 (.int .i64 c) := rfl

section
variable {P : Program} {d n : Nat} {xs ys : Array Value} {e t : TypeId} {i : Nat} {is : List Nat} {a b : Value} {r s : Bool} {w : World} {ie : TypeInfo}
theorem eqarr_cons (ha : (part e xs (i * P.cellsOf e)).run P w = .ok a w) (hb : (part e ys (i * P.cellsOf e)).run P w = .ok b w) (he : (Op.equalIn d e a b).run P w = .ok r w) (hr : (Op.eqItems d e (P.cellsOf e) xs ys is).run P w = .ok s w) : (Op.eqItems d e (P.cellsOf e) xs ys (i :: is)).run P w = .ok (r && s) w := by
  simp only [Op.eqItems, Sem.run_bind, ha, hb, he, Result.andThen_ok]
  cases r
  · simp
  · simpa using hr
theorem eqarr_last (ha : (part e xs (i * P.cellsOf e)).run P w = .ok a w) (hb : (part e ys (i * P.cellsOf e)).run P w = .ok b w) (he : (Op.equalIn d e a b).run P w = .ok r w) : (Op.eqItems d e (P.cellsOf e) xs ys [i]).run P w = .ok r w := by
  have h := eqarr_cons (is := []) ha hb he (s := true) (by simp [Op.eqItems])
  rwa [Bool.and_true] at h
theorem eqarr_of {l : List Nat} (hu : P.underlying t = some (.array n e)) (hi0 : (P.info? e).isSome = true) (hl : List.range n = l) (h : (Op.eqItems d e (P.cellsOf e) xs ys l).run P w = .ok r w) : (Op.equalIn (d + 1) t (.agg xs) (.agg ys)).run P w = .ok r w := by
  obtain ⟨ie, hi⟩ := Option.isSome_iff_exists.1 hi0
  rw [run_equalIn_array (P := P) w d xs ys hu hi, hl]
  exact h
end
theorem arr_cell {α : Type} {enc : α → Value} {d : α} {l : List α} {w : World} {g : Nat} {t : TypeId} {cs : Array Value} (h : w.heap[g]? = some (.cells cs t (0, 0))) (o : Nat) (hc : (cs.toList.drop o).take l.length = l.map enc) (i : Int) (h0 : 0 ≤ i) (h1 : i < (l.length : Int)) : w.cell? ((⟨g, o, none⟩ : Addr).add i.toNat) = some (enc (rdOf d l i)) := by
  have hi : i.toNat < l.length := by omega
  have h2 := congrArg (fun z => z[i.toNat]?) hc
  simp only [List.getElem?_take, if_pos hi, List.getElem?_drop, List.getElem?_map, List.getElem?_eq_getElem hi, Option.map_some] at h2
  rw [add_at, blk_cell h, ← Array.getElem?_toList, h2]
  simp [rdOf, List.getD_eq_getElem?_getD, List.getElem?_eq_getElem hi]
theorem arr_index {α : Type} {enc : α → Value} {d : α} {l : List α} {P : Program} {t e : TypeId} {n : Nat} {cs : Array Value} {k : IntKind} (hu : P.underlying t = some (.array n e)) (he : (P.plainKey e = true ∧ P.cellsOf e = 1) ∧ (P.info? e).isSome = true ∧ n = l.length) (hc : cs.toList = l.map enc) (i : Int) (h0 : 0 ≤ i) (h1 : i < (l.length : Int)) (w : World) : (Instr.index t (.agg cs) (.int k i)).run P w = .ok (enc (rdOf d l i)) w := by
  have hi : i.toNat < l.length := by omega
  obtain ⟨⟨h3, h4⟩, h5, h6⟩ := he
  have h2 := congrArg (fun z => z[i.toNat]?) hc
  simp only [List.getElem?_map, List.getElem?_eq_getElem hi, Option.map_some, Array.getElem?_toList] at h2
  have hp := run_part_plain (P := P) h3 (w := w) h2
  obtain ⟨ie, hie⟩ := Option.isSome_iff_exists.1 h5
  have hs := run_sizeOf (P := P) (w := w) hie
  simp only [h4] at hs
  simp only [Instr.index, asIntOf, Sem.run_bind, Sem.run_pure, Result.andThen_ok, run_underlying hu, h6, h0, h1, and_self, if_true, hs, Nat.mul_one, hp]
  simp [rdOf, List.getD_eq_getElem?_getD, List.getElem?_eq_getElem hi]
theorem beq_nil_e (l : List UInt8) : (l == []) = l.isEmpty := by cases l <;> rfl
theorem bne_nil_e (l : List UInt8) : (l != []) = !l.isEmpty := by cases l <;> rfl
theorem info9 : (Tryd.prog.info? 9).map (fun i => (i.zero, i.size, i.bytes)) = some (some (.string ⟨#[]⟩), 1, 16) := by kernel_rfl
-- the values' own types

end Go.Proofs.YtoklancgpmnhcaaDoor.PAll
