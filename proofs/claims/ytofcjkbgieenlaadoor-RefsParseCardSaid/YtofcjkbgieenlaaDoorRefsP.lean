/- Contracts of strings.IndexRune and IndexAny at the set that told looks for. By an AI agent. -/
import Derived.Test.YtofcjkbgieenlaaDoorRefsO
namespace Go.Proofs.YtofcjkbgieenlaaDoor.PM
open Go Go.Proofs Go.RowKit
set_option maxRecDepth 100000
set_option linter.unusedVariables false
set_option linter.unusedSimpArgs false

abbrev dots : ByteArray := (ByteArray.mk #[46, 58])
def validG : Pure
  | [.int .i32 r] => some (True, .bool (Lib.validRune r))
  | _ => none
theorem valid_ok : PureOk Tryd.prog 54 validG :=
  .of_shelf Tryd.func54 (by kernel_rfl) rfl fun args c r hg => by
    unfold validG at hg
    split at hg
    · rename_i x
      cases hg
      exact ⟨rfl, fun _ => ⟨rfl, fun w => (Tryd.utf8_ValidRune x w).mono fun e w' k => ⟨k.1, by rw [k.2]; exact Below.refl _ _⟩⟩⟩
    · cases hg
def indexByteG : Pure
  | [.string s, .int .u8 c] => some (True, .int .i64 (Lib.indexByte s.data.toList c.toNat.toUInt8))
  | _ => none
theorem indexByte_ok : PureOk Tryd.prog 53 indexByteG :=
  .of_shelf Tryd.func53 (by kernel_rfl) rfl fun args c r hg => by
    unfold indexByteG at hg
    split at hg
    · rename_i s c
      cases hg
      exact ⟨rfl, fun _ => ⟨rfl, fun w => (Tryd.strings_IndexByte s c w).mono fun e w' k => ⟨k.1, by rw [k.2]; exact Below.refl _ _⟩⟩⟩
    · cases hg
/-- What comes of a rune. -/
def irS (r : Int) : Int := bif r == 46 then 0 else bif r == 58 then 1 else -1
def irG : Pure
  | [.string s, .int .i32 r] => some (s = dots ∧ 0 ≤ r ∧ r ≤ 2147483647, .int .i64 (irS r))
  | _ => none
def never : LSpec := fun _ _ _ => False
def lookLp : LSpec
  | [(0, .string s), (7, .string rs), (8, .int .i64 last), (9, .int .i64 i)], [], K => (s = dots ∧ i = last ∧ last = (rs.size : Int) - 1 ∧ 2 ≤ rs.size ∧ rs.size ≤ 4 ∧ 128 ≤ bt rs ((rs.size : Int) - 1)) ∧
      bcase (decide (rs.size = 2)) (K .ret [(4, .int .i64 (-1))] []) (K (.exit 1) [] [])
  | _, _, _ => False
def tab37 : Tab := ⟨fun | 12 => some never | _ => none, fun _ => none⟩
theorem look_round (rs : ByteArray) (h2 : 2 ≤ rs.size) (h4 : rs.size ≤ 4) (hl : 128 ≤ bt rs ((rs.size : Int) - 1)) (K : Kont) (hK : bcase (decide (rs.size = 2)) (K .ret [(4, .int .i64 (-1))] []) (K (.exit 1) [] [])) :
    rnds Tryd.prog (callOf [(53, pureS indexByteG)]) (hints 37) tab37 1 (lp Tryd.f37 5) [(0, .string dots), (7, .string rs), (8, .int .i64 ((rs.size : Int) - 1)), (9, .int .i64 ((rs.size : Int) - 1))] [] K := by
  have hw : IntKind.i64.wrap (((rs.size : Int) - 1) + 1) = ((rs.size : Int) - 1) + 1 := wrap_id (by omega) (by omega)
  refine to (R := bcase (decide (((↑rs.size : Int) - (1 : Int)) < (↑2 : Int))) (need ((decide ((0 : Int) ≤ ((↑rs.size : Int) - (1 : Int)))) && (decide (((↑rs.size : Int) - (1 : Int)) < (↑2 : Int)))) (need ((decide ((0 : Int) ≤ ((↑rs.size : Int) - (1 : Int)))) && (decide (((↑rs.size : Int) - (1 : Int)) < (↑rs.size : Int)))) (bcase ((bt dots ((↑rs.size : Int) - (1 : Int))) != (bt rs ((↑rs.size : Int) - (1 : Int)))) (need ((decide ((0 : Int) ≤ (IntKind.i64.wrap (((↑rs.size : Int) - (1 : Int)) + (1 : Int))))) && ((decide ((IntKind.i64.wrap (((↑rs.size : Int) - (1 : Int)) + (1 : Int))) ≤ (↑2 : Int))) && true)) (need ((decide ((0 : Int) ≤ ((↑rs.size : Int) - (1 : Int)))) && (decide (((↑rs.size : Int) - (1 : Int)) < (↑rs.size : Int)))) (True ∧ (bcase (decide ((Lib.indexByte (dots.extract (IntKind.i64.wrap (((↑rs.size : Int) - (1 : Int)) + (1 : Int))).toNat 2).data.toList (bt rs ((↑rs.size : Int) - (1 : Int))).toNat.toUInt8) < (0 : Int))) (K .ret [(4, (.int .i64 ((-1) : Int)))] []) False)))) False))) (K (.exit 1) [] [])) (by kernel_rfl) ?_
  rw [hw]
  by_cases h : rs.size = 2
  · have e1 : ((rs.size : Int) - 1) = 1 := by omega
    rw [decide_eq_true h, bcase_tt] at hK
    rw [e1] at hl ⊢
    refine bcase_t rfl (need_of rfl (need_of (by simp; omega) (bcase_t ?_ (need_of rfl (need_of (by simp; omega) ⟨trivial, bcase_t rfl hK⟩)))))
    have : bt dots 1 = 58 := rfl
    rw [this]
    simp only [bne_iff_ne, ne_eq]
    omega
  · rw [decide_eq_false h, bcase_ff] at hK
    exact bcase_f (by simp; omega) hK
theorem lookLp_ok : CodeOk Tryd.prog Tryd.f37.ntmps (.loop (lp Tryd.f37 5)) lookLp := by
  refine loop_ok (call := callOf [(53, pureS indexByteG)]) (hint := hints 37) (tb := tab37) hm (callOf_cons indexByte_ok.spec callOf_nil) (by kernel_rfl) (by repeat' first | exact trivial | constructor | (intro _ h; cases h; exact fun _ _ _ _ _ _ _ _ _ _ h => h.elim) | (intro _ h; cases h)) fun fr H K h => ?_
  unfold lookLp at h
  split at h
  · obtain ⟨⟨rfl, rfl, rfl, h2, h4, hl⟩, hK⟩ := h
    exact ⟨_, look_round _ h2 h4 hl _ hK⟩
  · exact h.elim
def rngLp : LSpec
  | [(175, .pointer (some ⟨0, 0, some 0⟩))], H, K => (H = [.iter dots 0]) ∧ K (.exit 9) [] [.iter dots 2]
  | _, _, _ => False
theorem rng2 (K : Kont) (h : K (.exit 9) [] [.iter dots 2]) : rnds Tryd.prog (callOf []) (hints 37) noTab 1 (lp Tryd.f37 38) [(175, pt 0)] [.iter dots 2] K := by
  refine to (R := K (.exit 9) [] [(VB.iter dots 2)]) (by kernel_rfl) ?_
  exact h
theorem rng1 (K : Kont) (n : Nat) (h : rnds Tryd.prog (callOf []) (hints 37) noTab n (lp Tryd.f37 38) [(175, pt 0)] [.iter dots 2] K) : rnds Tryd.prog (callOf []) (hints 37) noTab (n + 1) (lp Tryd.f37 38) [(175, pt 0)] [.iter dots 1] K := by
  refine to (R := rnds Tryd.prog (callOf []) (hints 37) noTab n (lp Tryd.f37 38) [(175, (.pointer (some (Addr.mk 0 0 (some 0)))))] [(VB.iter dots 2)] K) (by kernel_rfl) ?_
  exact h
theorem rng0 (K : Kont) (n : Nat) (h : rnds Tryd.prog (callOf []) (hints 37) noTab n (lp Tryd.f37 38) [(175, pt 0)] [.iter dots 1] K) : rnds Tryd.prog (callOf []) (hints 37) noTab (n + 1) (lp Tryd.f37 38) [(175, pt 0)] [.iter dots 0] K := by
  refine to (R := rnds Tryd.prog (callOf []) (hints 37) noTab n (lp Tryd.f37 38) [(175, (.pointer (some (Addr.mk 0 0 (some 0)))))] [(VB.iter dots 1)] K) (by kernel_rfl) ?_
  exact h
theorem rngLp_ok : CodeOk Tryd.prog Tryd.f37.ntmps (.loop (lp Tryd.f37 38)) rngLp := by
  refine loop_ok (call := callOf []) (hint := hints 37) (tb := noTab) hm (callOf_nil) (by kernel_rfl) (by repeat' first | exact trivial | constructor |  (intro _ h; cases h)) fun fr H K h => ?_
  unfold rngLp at h
  split at h
  · obtain ⟨rfl, hK⟩ := h
    exact ⟨3, rng0 _ 2 (rng1 _ 1 (rng2 _ hK))⟩
  · exact h.elim
theorem bt2 (a b : UInt8) : bt ⟨#[a, b]⟩ (((⟨#[a, b]⟩ : ByteArray).size : Int) - 1) = (b.toNat : Int) := rfl
theorem bt3 (a b c : UInt8) : bt ⟨#[a, b, c]⟩ (((⟨#[a, b, c]⟩ : ByteArray).size : Int) - 1) = (c.toNat : Int) := rfl
theorem bt4 (a b c d : UInt8) : bt ⟨#[a, b, c, d]⟩ (((⟨#[a, b, c, d]⟩ : ByteArray).size : Int) - 1) = (d.toNat : Int) := rfl
theorem high (n : Nat) : 128 ≤ (UInt8.ofNat (0x80 + n % 64)).toNat := by
  rw [UInt8.toNat_ofNat']
  omega
theorem enc_of (s : ByteArray) (a b c d : UInt8) (h : s = ⟨#[a, b]⟩ ∧ 128 ≤ b.toNat ∨ s = ⟨#[a, b, c]⟩ ∧ 128 ≤ c.toNat ∨ s = ⟨#[a, b, c, d]⟩ ∧ 128 ≤ d.toNat) : 2 ≤ s.size ∧ s.size ≤ 4 ∧ 128 ≤ bt s ((s.size : Int) - 1) := by
  rcases h with ⟨rfl, h⟩ | ⟨rfl, h⟩ | ⟨rfl, h⟩
  · rw [bt2]; exact ⟨Nat.le_refl 2, by show 2 ≤ 4; omega, by omega⟩
  · rw [bt3]; exact ⟨by show 2 ≤ 3; omega, by show 3 ≤ 4; omega, by omega⟩
  · rw [bt4]; exact ⟨by show 2 ≤ 4; omega, Nat.le_refl 4, by omega⟩
theorem enc_facts (r : Int) (h : 128 ≤ r) : 2 ≤ (Utf8.encode r).size ∧ (Utf8.encode r).size ≤ 4 ∧ 128 ≤ bt (Utf8.encode r) (((Utf8.encode r).size : Int) - 1) := by
  unfold Utf8.encode
  obtain ⟨c, hc⟩ : ∃ c, c = (if Utf8.valid r then r.toNat else Utf8.runeError) := ⟨_, rfl⟩
  have hc2 : 128 ≤ c := by
    rw [hc]
    split
    · omega
    · decide
  rw [← hc]
  simp only
  split
  · omega
  · split
    · exact enc_of _ _ _ 0 0 (.inl ⟨rfl, high _⟩)
    · split
      · exact enc_of _ _ _ _ 0 (.inr (.inl ⟨rfl, high _⟩))
      · exact enc_of _ _ _ _ _ (.inr (.inr ⟨rfl, high _⟩))
end Go.Proofs.YtofcjkbgieenlaaDoor.PM
