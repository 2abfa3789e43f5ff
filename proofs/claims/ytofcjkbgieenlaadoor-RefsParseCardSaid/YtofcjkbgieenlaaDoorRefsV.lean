/- Contract of strings.IndexRune at the digits of a digest. By an AI agent. -/
import Derived.Test.YtofcjkbgieenlaaDoorRefsU
namespace Go.Proofs.YtofcjkbgieenlaaDoor.PM
open Go Go.Proofs Go.RowKit
set_option maxRecDepth 100000
set_option linter.unusedVariables false
set_option linter.unusedSimpArgs false

def lookH : LSpec
  | [(0, .string s), (7, .string rs), (8, .int .i64 last), (9, .int .i64 i)], [], K => (s = hexT ∧ i = last ∧ last = (rs.size : Int) - 1 ∧ 2 ≤ rs.size ∧ rs.size ≤ 4 ∧ 128 ≤ bt rs ((rs.size : Int) - 1)) ∧
      K .ret [(4, .int .i64 (-1))] []
  | _, _, _ => False
theorem hexT_low (i : Nat) (h : i < 16) : bt hexT (i : Int) < 128 := by
  have : ∀ n : Fin 16, bt hexT (n.val : Int) < 128 := by decide
  exact this ⟨i, h⟩
theorem hexT_none (a b : Nat) (c : Int) (h0 : 128 ≤ c) (h1 : c < 256) : Lib.indexByte (hexT.extract a b).data.toList c.toNat.toUInt8 < 0 := by
  have key : ∀ l : List UInt8, (∀ x ∈ l, x.toNat < 128) → Lib.indexByte l c.toNat.toUInt8 = -1 := fun l => by
    induction l with
    | nil => intro _; rfl
    | cons x l ih =>
      intro h
      have hx := h x List.mem_cons_self
      have e : Lib.indexByte (x :: l) c.toNat.toUInt8 = if x == c.toNat.toUInt8 then 0 else if Lib.indexByte l c.toNat.toUInt8 == -1 then -1 else Lib.indexByte l c.toNat.toUInt8 + 1 := rfl
      have hne : (x == c.toNat.toUInt8) = false := by
        rw [beq_eq_false_iff_ne]
        intro he
        have := congrArg UInt8.toNat he
        have h2 : (c.toNat.toUInt8).toNat = c.toNat % 256 := UInt8.toNat_ofNat'
        omega
      rw [e, hne, ih (fun y hy => h y (List.mem_cons_of_mem _ hy))]
      rfl
  have hall : ∀ x ∈ (hexT.extract a b).data.toList, x.toNat < 128 := fun x hx => by
    have h2 : x ∈ hexT.data.toList := by
      have e : (hexT.extract a b).data.toList = (hexT.data.toList.take b).drop a := li_extract _ _ _
      rw [e] at hx
      exact List.mem_of_mem_take (List.mem_of_mem_drop hx)
    have : ∀ x ∈ hexT.data.toList, x.toNat < 128 := by decide
    exact this x h2
  rw [key _ hall]
  decide
theorem lookH_round (rs : ByteArray) (h2 : 2 ≤ rs.size) (h4 : rs.size ≤ 4) (hl : 128 ≤ bt rs ((rs.size : Int) - 1)) (K : Kont) (hK : K .ret [(4, .int .i64 (-1))] []) :
    rnds Tryd.prog (callOf [(53, pureS indexByteG)]) (hints 37) tab37 1 (lp Tryd.f37 5) [(0, .string hexT), (7, .string rs), (8, .int .i64 ((rs.size : Int) - 1)), (9, .int .i64 ((rs.size : Int) - 1))] [] K := by
  have hw : IntKind.i64.wrap (((rs.size : Int) - 1) + 1) = ((rs.size : Int) - 1) + 1 := wrap_id (by omega) (by omega)
  have hs : hexT.size = 16 := rfl
  have hlow : bt hexT ((rs.size : Int) - 1) < 128 := by
    have := hexT_low (rs.size - 1) (by omega)
    rw [show ((rs.size - 1 : Nat) : Int) = (rs.size : Int) - 1 by omega] at this
    exact this
  have hhi : bt rs ((rs.size : Int) - 1) < 256 := by
    unfold bt
    have := (rs.data.toList.getD ((rs.size : Int) - 1).toNat 0).toNat_lt
    omega
  refine to (R := bcase (decide (((↑rs.size : Int) - (1 : Int)) < (↑16 : Int))) (need ((decide ((0 : Int) ≤ ((↑rs.size : Int) - (1 : Int)))) && (decide (((↑rs.size : Int) - (1 : Int)) < (↑16 : Int)))) (need ((decide ((0 : Int) ≤ ((↑rs.size : Int) - (1 : Int)))) && (decide (((↑rs.size : Int) - (1 : Int)) < (↑rs.size : Int)))) (bcase ((bt hexT ((↑rs.size : Int) - (1 : Int))) != (bt rs ((↑rs.size : Int) - (1 : Int)))) (need ((decide ((0 : Int) ≤ (IntKind.i64.wrap (((↑rs.size : Int) - (1 : Int)) + (1 : Int))))) && ((decide ((IntKind.i64.wrap (((↑rs.size : Int) - (1 : Int)) + (1 : Int))) ≤ (↑16 : Int))) && true)) (need ((decide ((0 : Int) ≤ ((↑rs.size : Int) - (1 : Int)))) && (decide (((↑rs.size : Int) - (1 : Int)) < (↑rs.size : Int)))) (True ∧ (bcase (decide ((Lib.indexByte (hexT.extract (IntKind.i64.wrap (((↑rs.size : Int) - (1 : Int)) + (1 : Int))).toNat 16).data.toList (bt rs ((↑rs.size : Int) - (1 : Int))).toNat.toUInt8) < (0 : Int))) (K .ret [(4, (.int .i64 ((-1) : Int)))] []) False)))) False))) (K (.exit 1) [] [])) (by kernel_rfl) ?_
  rw [hw]
  refine bcase_t (by simp; omega) (need_of (by simp; omega) (need_of (by simp; omega) (bcase_t ?_ (need_of (by simp; omega) (need_of (by simp; omega) ⟨trivial, bcase_t ?_ hK⟩)))))
  · simp only [bne_iff_ne, ne_eq]
    omega
  · exact decide_eq_true (hexT_none _ _ _ hl hhi)
theorem lookH_ok : CodeOk Tryd.prog Tryd.f37.ntmps (.loop (lp Tryd.f37 5)) lookH := by
  refine loop_ok (call := callOf [(53, pureS indexByteG)]) (hint := hints 37) (tb := tab37) hm (callOf_cons indexByte_ok.spec callOf_nil) (by kernel_rfl) (by repeat' first | exact trivial | constructor | (intro _ h; cases h; exact fun _ _ _ _ _ _ _ _ _ _ h => h.elim) | (intro _ h; cases h)) fun fr H K h => ?_
  unfold lookH at h
  split at h
  · obtain ⟨⟨rfl, rfl, rfl, h2, h4, hl⟩, hK⟩ := h
    exact ⟨_, lookH_round _ h2 h4 hl _ hK⟩
  · exact h.elim
def rngH : LSpec
  | [(175, .pointer (some ⟨0, 0, some 0⟩))], H, K => (H = [.iter hexT 0]) ∧ ∀ p, K (.exit 9) [] [.iter hexT p]
  | _, _, _ => False
theorem rngH_rounds (K : Kont) (h : ∀ p, K (.exit 9) [] [.iter hexT p]) : ∀ d pos : Nat, pos + d = 16 → rnds Tryd.prog (callOf []) (hints 37) noTab (d + 1) (lp Tryd.f37 38) [(175, pt 0)] [.iter hexT pos] K
  | 0, pos, hp => by
    have hs : hexT.size = 16 := rfl
    refine to (R := bcase (decide (pos < 16)) (bcase ((↑(Utf8.decode hexT pos).fst : Int) == (65533 : Int)) (K .ret [(4, (.int .i64 (↑pos : Int)))] [(VB.iter hexT (pos + (Utf8.decode hexT pos).snd))]) (rnds Tryd.prog (callOf []) (hints 37) noTab (nat_lit 0) (lp Tryd.f37 38) [(175, (.pointer (some (Addr.mk 0 0 (some 0)))))] [(VB.iter hexT (pos + (Utf8.decode hexT pos).snd))] K)) (K (.exit 9) [] [(VB.iter hexT pos)])) (by kernel_rfl) ?_
    exact bcase_f (by simp; omega) (h _)
  | d + 1, pos, hp => by
    have hs : hexT.size = 16 := rfl
    have hlt : pos < hexT.size := by omega
    have ih := rngH_rounds K h d (pos + 1) (by omega)
    have hb := hexT_low pos (by omega)
    have hb2 : ((hexT[pos]'hlt).toNat : Int) < 128 := by
      have e : bt hexT (pos : Int) = ((hexT[pos]'hlt).toNat : Int) := by
        rw [bt_li, Int.toNat_natCast, List.getD_eq_getElem?_getD, List.getElem?_eq_getElem (by rw [li_size]; exact hlt)]; rfl
      rw [← e]; exact hb
    have he := decode_ascii hexT pos hlt (by omega)
    obtain ⟨n, hn⟩ : ∃ n, n = d + 1 := ⟨_, rfl⟩; rw [← hn] at ih ⊢
    refine to (R := bcase (decide (pos < 16)) (bcase ((↑(Utf8.decode hexT pos).fst : Int) == (65533 : Int)) (K .ret [(4, (.int .i64 (↑pos : Int)))] [(VB.iter hexT (pos + (Utf8.decode hexT pos).snd))]) (rnds Tryd.prog (callOf []) (hints 37) noTab n (lp Tryd.f37 38) [(175, (.pointer (some (Addr.mk 0 0 (some 0)))))] [(VB.iter hexT (pos + (Utf8.decode hexT pos).snd))] K)) (K (.exit 9) [] [(VB.iter hexT pos)])) (by kernel_rfl) ?_
    rw [he]
    refine bcase_t (decide_eq_true hlt) (bcase_f ?_ ih)
    rw [beq_eq_false_iff_ne]
    show ¬ ((hexT[pos]'hlt).toNat : Int) = 65533
    omega
theorem rngH_ok : CodeOk Tryd.prog Tryd.f37.ntmps (.loop (lp Tryd.f37 38)) rngH := by
  refine loop_ok (call := callOf []) (hint := hints 37) (tb := noTab) hm (callOf_nil) (by kernel_rfl) (by repeat' first | exact trivial | constructor |  (intro _ h; cases h)) fun fr H K h => ?_
  unfold rngH at h
  split at h
  · obtain ⟨rfl, hK⟩ := h
    exact ⟨_, rngH_rounds _ hK 16 0 rfl⟩
  · exact h.elim
def tab37h : Tab := ⟨fun | 12 => some never | 5 => some lookH | 38 => some rngH | _ => none, fun _ => none⟩
def irH (r : Int) : Int := bif decide (r < 128) then Lib.indexByte hexT.data.toList r.toNat.toUInt8 else -1
def irHG : Pure
  | [.string s, .int .i32 r] => some (s = hexT ∧ 0 ≤ r ∧ r ≤ 2147483647, .int .i64 (irH r))
  | _ => none
attribute [local irreducible] Utf8.encode Lib.validRune
theorem irH_ok : PureOk Tryd.prog 37 irHG := by
  refine .of_run (call := callOf [(53, pureS indexByteG), (54, pureS validG)]) (hint := hints 37) (tb := tab37h) hm (callOf_cons indexByte_ok.spec (callOf_cons valid_ok.spec callOf_nil)) Tryd.func37 (by kernel_rfl) rfl (by kernel_rfl) (by repeat' first | exact trivial | constructor | (intro _ h; cases h; exact fun _ _ _ _ _ _ _ _ _ _ h => h.elim) | (intro _ h; cases h; exact lookH_ok) | (intro _ h; cases h; exact rngH_ok) | (intro _ h; cases h)) fun args c r h => ?_
  unfold irHG at h
  split at h
  · rename_i s r
    cases h
    refine ⟨rfl, fun hs => ⟨rfl, 1, fun K hK => ?_⟩⟩
    obtain ⟨rfl, h0, h1⟩ := hs
    have he := fun h => enc_facts r h
    have hwr : 128 ≤ r → IntKind.i64.wrap ((↑(Utf8.encode r).size : Int) - (1 : Int)) = (↑(Utf8.encode r).size : Int) - (1 : Int) := fun h => by
      have := he h
      exact wrap_id (by omega) (by omega)
    have hK := hK []
    refine to (R := bcase (decide ((0 : Int) ≤ r)) (bcase (decide (r < (128 : Int))) (True ∧ (K (.int .i64 (Lib.indexByte hexT.data.toList (IntKind.u8.wrap r).toNat.toUInt8)) [])) (bcase (r == (65533 : Int)) (([(VB.iter hexT 0)] = [(VB.iter hexT 0)]) ∧ (∀ (p : Nat), (K (.int .i64 ((-1) : Int)) []))) (True ∧ (bcase (!(Lib.validRune r)) (K (.int .i64 ((-1) : Int)) []) (((hexT = hexT) ∧ (((IntKind.i64.wrap ((↑(Utf8.encode r).size : Int) - (1 : Int))) = (IntKind.i64.wrap ((↑(Utf8.encode r).size : Int) - (1 : Int)))) ∧ (((IntKind.i64.wrap ((↑(Utf8.encode r).size : Int) - (1 : Int))) = ((↑(Utf8.encode r).size : Int) - (1 : Int))) ∧ ((2 ≤ (Utf8.encode r).size) ∧ (((Utf8.encode r).size ≤ 4) ∧ ((128 : Int) ≤ (bt (Utf8.encode r) ((↑(Utf8.encode r).size : Int) - (1 : Int))))))))) ∧ (K (.int .i64 ((-1) : Int)) [])))))) (bcase (r == (65533 : Int)) (([(VB.iter hexT 0)] = [(VB.iter hexT 0)]) ∧ (∀ (p : Nat), (K (.int .i64 ((-1) : Int)) []))) (True ∧ (bcase (!(Lib.validRune r)) (K (.int .i64 ((-1) : Int)) []) (((hexT = hexT) ∧ (((IntKind.i64.wrap ((↑(Utf8.encode r).size : Int) - (1 : Int))) = (IntKind.i64.wrap ((↑(Utf8.encode r).size : Int) - (1 : Int)))) ∧ (((IntKind.i64.wrap ((↑(Utf8.encode r).size : Int) - (1 : Int))) = ((↑(Utf8.encode r).size : Int) - (1 : Int))) ∧ ((2 ≤ (Utf8.encode r).size) ∧ (((Utf8.encode r).size ≤ 4) ∧ ((128 : Int) ≤ (bt (Utf8.encode r) ((↑(Utf8.encode r).size : Int) - (1 : Int))))))))) ∧ (K (.int .i64 ((-1) : Int)) [])))))) (by kernel_rfl) ?_
    refine bcase_t (by simp; omega) (bcase_of (fun h => ⟨trivial, ?_⟩) (fun h => ?_))
    · have hlt := of_decide_eq_true h
      have hq : IntKind.u8.wrap r = r := by show r % 256 = r; omega
      unfold irH at hK
      rw [h] at hK
      rw [hq]
      exact hK
    · have hr : 128 ≤ r := by have := of_decide_eq_false h; omega
      unfold irH at hK
      rw [h] at hK
      rw [hwr hr]
      obtain ⟨e1, e2, e3⟩ := he hr
      exact bcase_of (fun _ => ⟨rfl, fun _ => hK⟩) (fun _ => ⟨trivial, bcase_of (fun _ => hK) (fun _ => ⟨⟨rfl, rfl, rfl, e1, e2, e3⟩, hK⟩)⟩)
  · cases h
end Go.Proofs.YtofcjkbgieenlaaDoor.PM
