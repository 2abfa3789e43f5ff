/- Contracts of strings.IndexRune and IndexAny at the set that told looks for. By an AI agent. -/
import Derived.Test.YtofcjkbgieenlaaDoorRefsP
namespace Go.Proofs.YtofcjkbgieenlaaDoor.PM
open Go Go.Proofs Go.RowKit
set_option maxRecDepth 100000
set_option linter.unusedVariables false
set_option linter.unusedSimpArgs false

def tab37' : Tab := ⟨fun | 12 => some never | 5 => some lookLp | 38 => some rngLp | _ => none, fun _ => none⟩
theorem low_ir (n : Nat) (h : n < 128) : Lib.indexByte dots.data.toList n.toUInt8 = irS (n : Int) := by
  have : ∀ n : Fin 128, Lib.indexByte dots.data.toList n.val.toUInt8 = irS (n.val : Int) := by decide
  exact this ⟨n, h⟩
attribute [local irreducible] Utf8.encode Lib.validRune
theorem ir_ok : PureOk Tryd.prog 37 irG := by
  refine .of_run (call := callOf [(53, pureS indexByteG), (54, pureS validG)]) (hint := hints 37) (tb := tab37') hm (callOf_cons indexByte_ok.spec (callOf_cons valid_ok.spec callOf_nil)) Tryd.func37 (by kernel_rfl) rfl (by kernel_rfl) (by repeat' first | exact trivial | constructor | (intro _ h; cases h; exact fun _ _ _ _ _ _ _ _ _ _ h => h.elim) | (intro _ h; cases h; exact lookLp_ok) | (intro _ h; cases h; exact rngLp_ok) | (intro _ h; cases h)) fun args c r h => ?_
  unfold irG at h
  split at h
  · rename_i s r
    cases h
    refine ⟨rfl, fun hs => ⟨rfl, 1, fun K hK => ?_⟩⟩
    obtain ⟨rfl, h0, h1⟩ := hs
    have he := fun h => enc_facts r h
    have hwr : 128 ≤ r → IntKind.i64.wrap ((↑(Utf8.encode r).size : Int) - (1 : Int)) = (↑(Utf8.encode r).size : Int) - (1 : Int) := fun h => by
      have := he h
      exact wrap_id (by omega) (by omega)
    have low : r < 128 → Lib.indexByte dots.data.toList (IntKind.u8.wrap r).toNat.toUInt8 = irS r := fun h => by
      have hq : IntKind.u8.wrap r = r := by show r % 256 = r; omega
      rw [hq]
      obtain ⟨n, rfl⟩ : ∃ n : Nat, r = (n : Int) := ⟨r.toNat, by omega⟩
      rw [Int.toNat_natCast]
      have hn : n < 128 := by omega
      exact low_ir n hn
    have hi : ¬ r < 128 → irS r = -1 := fun h => by
      unfold irS
      have h1 : (r == 46) = false := by simp; omega
      have h2 : (r == 58) = false := by simp; omega
      rw [h1, h2]; rfl
    have hK := hK []
    refine to (R := bcase (decide ((0 : Int) ≤ r)) (bcase (decide (r < (128 : Int))) (True ∧ (K (.int .i64 (Lib.indexByte dots.data.toList (IntKind.u8.wrap r).toNat.toUInt8)) [])) (bcase (r == (65533 : Int)) (([(VB.iter dots 0)] = [(VB.iter dots 0)]) ∧ (K (.int .i64 ((-1) : Int)) [])) (True ∧ (bcase (!(Lib.validRune r)) (K (.int .i64 ((-1) : Int)) []) (((dots = dots) ∧ (((IntKind.i64.wrap ((↑(Utf8.encode r).size : Int) - (1 : Int))) = (IntKind.i64.wrap ((↑(Utf8.encode r).size : Int) - (1 : Int)))) ∧ (((IntKind.i64.wrap ((↑(Utf8.encode r).size : Int) - (1 : Int))) = ((↑(Utf8.encode r).size : Int) - (1 : Int))) ∧ ((2 ≤ (Utf8.encode r).size) ∧ (((Utf8.encode r).size ≤ 4) ∧ ((128 : Int) ≤ (bt (Utf8.encode r) ((↑(Utf8.encode r).size : Int) - (1 : Int))))))))) ∧ (bcase (decide ((Utf8.encode r).size = 2)) (K (.int .i64 ((-1) : Int)) []) (K (.int .i64 ((-1) : Int)) []))))))) (bcase (r == (65533 : Int)) (([(VB.iter dots 0)] = [(VB.iter dots 0)]) ∧ (K (.int .i64 ((-1) : Int)) [])) (True ∧ (bcase (!(Lib.validRune r)) (K (.int .i64 ((-1) : Int)) []) (((dots = dots) ∧ (((IntKind.i64.wrap ((↑(Utf8.encode r).size : Int) - (1 : Int))) = (IntKind.i64.wrap ((↑(Utf8.encode r).size : Int) - (1 : Int)))) ∧ (((IntKind.i64.wrap ((↑(Utf8.encode r).size : Int) - (1 : Int))) = ((↑(Utf8.encode r).size : Int) - (1 : Int))) ∧ ((2 ≤ (Utf8.encode r).size) ∧ (((Utf8.encode r).size ≤ 4) ∧ ((128 : Int) ≤ (bt (Utf8.encode r) ((↑(Utf8.encode r).size : Int) - (1 : Int))))))))) ∧ (bcase (decide ((Utf8.encode r).size = 2)) (K (.int .i64 ((-1) : Int)) []) (K (.int .i64 ((-1) : Int)) []))))))) (by kernel_rfl) ?_
    refine bcase_t (by simp; omega) (bcase_of (fun h => ⟨trivial, ?_⟩) (fun h => ?_))
    · rw [low (of_decide_eq_true h)]
      exact hK
    · have h := of_decide_eq_false h
      have hr : 128 ≤ r := by omega
      rw [hi h] at hK
      rw [hwr hr]
      obtain ⟨e1, e2, e3⟩ := he hr
      refine bcase_of (fun _ => ⟨rfl, hK⟩) (fun _ => ⟨trivial, bcase_of (fun _ => hK) (fun _ => ⟨⟨rfl, rfl, rfl, e1, e2, e3⟩, bcase_of (fun _ => hK) (fun _ => hK)⟩)⟩)
  · cases h
end Go.Proofs.YtofcjkbgieenlaaDoor.PM
