/- The walk of Spoil. -/
import Derived.Test.YthmajhdemooecaaF24
import Derived.Test.YthmajhdemooecaaXI
namespace Go.Proofs.Ythmajhdemooecaa
open Go.PM Go.RowKit
set_option linter.unusedVariables false
set_option linter.unusedSimpArgs false
attribute [local irreducible] adv advD advF fuel

theorem pf20 : plainFn Try.prog 20 = true := by kernel_rfl

theorem spoil20_calls {w0 w : World} {L : List Ck} {g n cap : Nat} {cur : Array Value} {x : Int} (H : HS w0 w (Ck.blk g 5 cur :: L)) (hs : cur.size = cap) (hn : n ≤ cap) (hcm : cap ≤ maxLen) (hsm : n ≤ 137438953469) :
    Calls Try.prog 20 #[.slice (some ⟨g, 0, none⟩) n cap, .int .u8 x] w fun e w' => e = .returned (.tuple #[]) ∧ ∃ cur', cur'.size = cap ∧ HS w0 w' (Ck.blk g 5 cur' :: L) := by
  refine calls_run Try.func20 (by kernel_rfl) ?_
  refine run_loop (fun mm a w' => ∃ i, mm = n - i ∧ i ≤ n ∧ ∃ cu, cu.size = cap ∧ (∃ u, a = env 35 u [(0, .slice (some ⟨g, 0, none⟩) n cap), (1, .int .u8 x), (4, .int .i64 (i : Int))]) ∧ HS w0 w' (Ck.blk g 5 cu :: L)) _ (by kernel_rfl) ⟨0, rfl, Nat.zero_le _, cur, hs, env_intro (by kernel_rfl) (by kernel_rfl) (by kernel_rfl), H⟩ ?_
  clear H
  rintro mm a w' ⟨i, rfl, hi, cu, hcu, ⟨u, rfl⟩, H⟩ next
  refine run_if (p := (i : Int) < (n : Int)) (by kernel_rfl) (by kernel_rfl) (fun hc => ?_) (fun hc => ?_)
  · refine run_val (by kernel_rfl) (op_indexN (t := 27) (e := 5) (sz := 1) (b := g) (off := 0) (n := n) (c := cap) (k := .i64) (i := i) (by kernel_rfl) (by kernel_rfl) (by kernel_rfl) (by omega)) ?_
    refine run_unit (by kernel_rfl) (op_store1 (t := 5) (b := g) (off := 0 + i * 1) (v := .int .u8 (IntKind.u8.wrap ((BitVec.ofInt 8 x ^^^ BitVec.ofInt 8 (IntKind.u8.wrap (i : Int))).toNat : Int))) (by kernel_rfl) (H.blk 0 rfl) (by kernel_rfl) (by omega) rfl rfl) ?_
    have H := H.put0 (cu.setIfInBounds (0 + i * 1) (.int .u8 (IntKind.u8.wrap ((BitVec.ofInt 8 x ^^^ BitVec.ofInt 8 (IntKind.u8.wrap (i : Int))).toNat : Int))))
    refine run_at (by kernel_rfl) (next (n - (i + 1)) _ _ (by omega) ⟨i + 1, rfl, by omega, _, by rw [Array.size_setIfInBounds]; exact hcu, ?_, H⟩)
    rw [← wrap_succ (by omega)]
    exact env_intro (by kernel_rfl) (by kernel_rfl) (by kernel_rfl)
  · clear next
    obtain rfl : i = n := by omega
    refine run_bs (e := 5) (len := 3) (cells := #[.int .u8 x, .int .u8 x, .int .u8 x]) H (by kernel_rfl) (by kernel_rfl) fun b3 wc H => ?_
    have hb3 := H.blk 0 rfl
    obtain ⟨v', w', hr, g2, cap2, cu2, M, rfl, hcu2, hn2, H2, hback⟩ := (H.pick 1 rfl).app_blk row27 hcu hn hcm (b := b3) (o := 0) (m := 3) (c := 3) (news := [.int .u8 x, .int .u8 x, .int .u8 x]) rfl (fun j u hj => by rw [hb3.cell, Nat.zero_add]; simpa using hj) (by simp [Value.oneCell']) (by omega)
    refine run_val (by kernel_rfl) (op_append (t := 27) (t' := 27) (s := .slice (some ⟨g, 0, none⟩) i cap) (by kernel_rfl) hr) ?_
    refine run_loop (fun mm a w' => ∃ j, mm = i + 3 - j ∧ j ≤ i + 3 ∧ ∃ cu, cu.size = cap2 ∧ (∃ u, a = env 35 u [(0, .slice (some ⟨g2, 0, none⟩) (i + 3) cap2), (1, .int .u8 x), (5, .int .i64 (j : Int))]) ∧ HS w0 w' (Ck.blk g2 5 cu :: M)) _ (by kernel_rfl) ⟨0, rfl, Nat.zero_le _, cu2, hcu2, env_intro (by kernel_rfl) (by kernel_rfl) (by kernel_rfl), H2⟩ ?_
    clear H H2
    rintro mm a w' ⟨j, rfl, hj, cv, hcv, ⟨u, rfl⟩, H⟩ next
    refine run_if (p := (j : Int) < ((i + 3 : Nat) : Int)) (by kernel_rfl) (by kernel_rfl) (fun hc => ?_) (fun hc => ?_)
    · refine run_val (by kernel_rfl) (op_indexN (t := 27) (e := 5) (sz := 1) (b := g2) (off := 0) (n := i + 3) (c := cap2) (k := .i64) (i := j) (by kernel_rfl) (by kernel_rfl) (by kernel_rfl) (by omega)) ?_
      refine run_unit (by kernel_rfl) (op_store1 (t := 5) (b := g2) (off := 0 + j * 1) (v := .int .u8 x) (by kernel_rfl) (H.blk 0 rfl) (by kernel_rfl) (by omega) rfl rfl) ?_
      have H := H.put0 (cv.setIfInBounds (0 + j * 1) (.int .u8 x))
      refine run_at (by kernel_rfl) (next (i + 3 - (j + 1)) _ _ (by omega) ⟨j + 1, rfl, by omega, _, by rw [Array.size_setIfInBounds]; exact hcv, ?_, H⟩)
      rw [← wrap_succ (by omega)]
      exact env_intro (by kernel_rfl) (by kernel_rfl) (by kernel_rfl)
    · obtain ⟨c3, h3, H⟩ := hback _ _ hcv H
      exact run_ret (v := .tuple #[]) (by kernel_rfl) (by kernel_rfl) (res0 (by kernel_rfl)) ⟨rfl, c3, h3, H.swap.drop⟩

theorem spoil20_nil {w0 w : World} {L : List Ck} {x : Int} (H : HS w0 w L) :
    Calls Try.prog 20 #[.slice none 0 0, .int .u8 x] w fun e w' => e = .returned (.tuple #[]) ∧ HS w0 w' L := by
  refine calls_run Try.func20 (by kernel_rfl) ?_
  refine run_loop (fun mm a w' => mm = 0 ∧ (∃ u, a = env 35 u [(0, .slice none 0 0), (1, .int .u8 x), (4, .int .i64 0)]) ∧ HS w0 w' L) _ (by kernel_rfl) ⟨rfl, env_intro (by kernel_rfl) (by kernel_rfl) (by kernel_rfl), H⟩ ?_
  clear H
  rintro mm a w' ⟨rfl, ⟨u, rfl⟩, H⟩ next
  refine run_if (p := (0 : Int) < ((0 : Nat) : Int)) (by kernel_rfl) (by kernel_rfl) (fun hc => absurd hc (by omega)) (fun hc => ?_)
  clear next
  refine run_bs (e := 5) (len := 3) (cells := #[.int .u8 x, .int .u8 x, .int .u8 x]) H (by kernel_rfl) (by kernel_rfl) fun b3 wc H => ?_
  have hb3 := H.blk 0 rfl
  have H := row_nil H 5 1
  obtain ⟨v', w', hr, H, -⟩ := H.app_row row27 (b := b3) (o := 0) (m := 3) (c := 3) (news := [.int .u8 x, .int .u8 x, .int .u8 x]) rfl (fun j u hj => by rw [hb3.cell, Nat.zero_add]; simpa using hj) (by simp [Value.oneCell']) (by omega)
  refine run_val (by kernel_rfl) (op_append (t := 27) (t' := 27) (s := .slice none 0 0) (by kernel_rfl) hr) ?_
  obtain ⟨S, ⟨⟨-, hrow⟩, -⟩, -⟩ := H.nth 0 rfl
  rcases hrow with ⟨-, h⟩ | ⟨g, cap, cu, rfl, -, hg, hnc, hcm, hcu, -⟩
  · cases h
  have H : HS w0 w' (Ck.blk g 5 cu :: Ck.blk b3 5 #[.int .u8 x, .int .u8 x, .int .u8 x] :: L) := H.map fun S hS => ⟨hg, hS.2 g rfl⟩
  have hcu : cu.size = cap := by omega
  refine run_loop (fun mm a w' => ∃ j, mm = 3 - j ∧ j ≤ 3 ∧ ∃ cu, cu.size = cap ∧ (∃ u, a = env 35 u [(0, .slice (some ⟨g, 0, none⟩) 3 cap), (1, .int .u8 x), (5, .int .i64 (j : Int))]) ∧ HS w0 w' (Ck.blk g 5 cu :: Ck.blk b3 5 #[.int .u8 x, .int .u8 x, .int .u8 x] :: L)) _ (by kernel_rfl) ⟨0, rfl, Nat.zero_le _, cu, hcu, env_intro (by kernel_rfl) (by kernel_rfl) (by kernel_rfl), H⟩ ?_
  clear H
  rintro mm a w' ⟨j, rfl, hj, cv, hcv, ⟨u, rfl⟩, H⟩ next
  refine run_if (p := (j : Int) < ((3 : Nat) : Int)) (by kernel_rfl) (by kernel_rfl) (fun hc => ?_) (fun hc => ?_)
  · refine run_val (by kernel_rfl) (op_indexN (t := 27) (e := 5) (sz := 1) (b := g) (off := 0) (n := 3) (c := cap) (k := .i64) (i := j) (by kernel_rfl) (by kernel_rfl) (by kernel_rfl) (by omega)) ?_
    refine run_unit (by kernel_rfl) (op_store1 (t := 5) (b := g) (off := 0 + j * 1) (v := .int .u8 x) (by kernel_rfl) (H.blk 0 rfl) (by kernel_rfl) (by omega) rfl rfl) ?_
    have H := H.put0 (cv.setIfInBounds (0 + j * 1) (.int .u8 x))
    refine run_at (by kernel_rfl) (next (3 - (j + 1)) _ _ (by omega) ⟨j + 1, rfl, by omega, _, by rw [Array.size_setIfInBounds]; exact hcv, ?_, H⟩)
    rw [← wrap_succ (by omega)]
    exact env_intro (by kernel_rfl) (by kernel_rfl) (by kernel_rfl)
  · exact run_ret (v := .tuple #[]) (by kernel_rfl) (by kernel_rfl) (res0 (by kernel_rfl)) ⟨rfl, H.drop.drop⟩
end Go.Proofs.Ythmajhdemooecaa
