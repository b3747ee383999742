/- The walks of a message's words and of a sum's bytes. -/
import Derived.Test.YthmajhdemooecaaX8
import Derived.Test.YthmajhdemooecaaF3
namespace Go.Proofs.Ythmajhdemooecaa
open Go.PM Go.RowKit
set_option linter.unusedVariables false
attribute [local irreducible] adv advD fuel

/-- The word j of the first k bytes: its bytes so far, the highest first. -/
def wd (b : Bytes) (k j : Nat) : Int := (((b.take k).drop (8 * j)).take 8).foldl (fun a c => a * 256 + (c.toNat : Int)) 0
def word (b : Bytes) (j : Nat) : Int := wd b 104 j

theorem pow256_le {n m : Nat} (h : n ≤ m) : (256 : Int) ^ n ≤ 256 ^ m := by
  induction h with
  | refl => exact Int.le_refl _
  | step h ih =>
    rw [Int.pow_succ]
    have : (0 : Int) ≤ 256 ^ n := Int.pow_nonneg (by omega)
    omega

theorem fold_bound : ∀ (l : Bytes) (a : Int), 0 ≤ a → 0 ≤ l.foldl (fun a c => a * 256 + (c.toNat : Int)) a ∧ l.foldl (fun a c => a * 256 + (c.toNat : Int)) a < (a + 1) * 256 ^ l.length
  | [], a, h => by simp; omega
  | c :: l, a, h => by
    have hc : c.toNat < 256 := c.toNat_lt
    have := fold_bound l (a * 256 + (c.toNat : Int)) (by omega)
    refine ⟨this.1, Int.lt_of_lt_of_le this.2 ?_⟩
    rw [List.length_cons, Int.pow_succ]
    have h1 : (a * 256 + (c.toNat : Int) + 1) ≤ (a + 1) * 256 := by omega
    have h2 : (0 : Int) ≤ 256 ^ l.length := Int.pow_nonneg (by omega)
    calc (a * 256 + (c.toNat : Int) + 1) * 256 ^ l.length ≤ (a + 1) * 256 * 256 ^ l.length := Int.mul_le_mul_of_nonneg_right h1 h2
      _ = (a + 1) * (256 ^ l.length * 256) := by rw [Int.mul_assoc, Int.mul_comm 256]

theorem wd_zero (b : Bytes) (j : Nat) : wd b 0 j = 0 := by simp [wd]
theorem wd_bound (b : Bytes) (k j : Nat) : 0 ≤ wd b k j ∧ wd b k j < 18446744073709551616 := by
  have := fold_bound (((b.take k).drop (8 * j)).take 8) 0 (Int.le_refl _)
  refine ⟨this.1, Int.lt_of_lt_of_le this.2 ?_⟩
  have hl : (((b.take k).drop (8 * j)).take 8).length ≤ 8 := List.length_take_le _ _
  rw [Int.zero_add, Int.one_mul]
  calc (256 : Int) ^ _ ≤ 256 ^ 8 := pow256_le hl
    _ = 18446744073709551616 := by decide
theorem wd_small (b : Bytes) (k : Nat) : wd b k (k / 8) < 72057594037927936 := by
  have := fold_bound (((b.take k).drop (8 * (k / 8))).take 8) 0 (Int.le_refl _)
  refine Int.lt_of_lt_of_le this.2 ?_
  have hl : (((b.take k).drop (8 * (k / 8))).take 8).length ≤ 7 := by
    simp; omega
  rw [Int.zero_add, Int.one_mul]
  calc (256 : Int) ^ _ ≤ 256 ^ 7 := pow256_le hl
    _ = 72057594037927936 := by decide
theorem wd_next {b : Bytes} {k : Nat} {c : UInt8} (hc : b[k]? = some c) (j : Nat) : wd b (k + 1) j = if j = k / 8 then wd b k j * 256 + (c.toNat : Int) else wd b k j := by
  have hk := (List.getElem?_eq_some_iff.1 hc).1
  have ht : b.take (k + 1) = b.take k ++ [c] := by
    rw [List.take_succ_eq_append_getElem hk]
    have := (List.getElem?_eq_some_iff.1 hc).2
    rw [this]
  have hl : (b.take k).length = k := List.length_take_of_le (by omega)
  unfold wd
  rw [ht]
  split
  · rename_i hj
    subst hj
    rw [List.drop_append_of_le_length (by omega)]
    have h8 : ((b.take k).drop (8 * (k / 8))).length < 8 := by simp; omega
    have e1 : ((b.take k).drop (8 * (k / 8)) ++ [c]).take 8 = (b.take k).drop (8 * (k / 8)) ++ [c] := List.take_of_length_le (by rw [List.length_append, List.length_singleton]; omega)
    have e2 : ((b.take k).drop (8 * (k / 8))).take 8 = (b.take k).drop (8 * (k / 8)) := List.take_of_length_le (by omega)
    rw [e1, e2, List.foldl_append]
    rfl
  · rename_i hj
    rcases Nat.lt_or_ge j (k / 8) with h | h
    · rw [List.drop_append_of_le_length (by omega), List.take_append_of_le_length (by simp; omega)]
    · have h1 : (b.take k).drop (8 * j) = [] := List.drop_eq_nil_of_le (by omega)
      have h2 : (b.take k ++ [c]).drop (8 * j) = [] := List.drop_eq_nil_of_le (by simp; omega)
      rw [h1, h2]

theorem pf109 : plainFn Try.prog 109 = true := by kernel_rfl

theorem tdiv_nat (k m : Nat) (h : k < 9223372036854775808) : IntKind.i64.wrap ((k : Int).tdiv (m : Int)) = ((k / m : Nat) : Int) := by
  have : (k : Int).tdiv (m : Int) = ((k / m : Nat) : Int) := rfl
  rw [this]
  have := Nat.div_le_self k m
  exact wrap_nat (by omega)

set_option maxHeartbeats 1000000 in
theorem words109_calls {b : Bytes} {v : Value} {w : World} (hx : Sl Ty.u8 w Any b v) :
    Calls Try.prog 109 #[v] w fun e w' => ∃ (ws : Nat → Int) (er : Int), e = .returned (.tuple #[.agg (tab 13 fun j => .int .u64 (ws j)), .int .i64 er]) ∧ ((b.length < 104 ∧ er = 7) ∨ (104 < b.length ∧ er = 8) ∨ (b.length = 104 ∧ er = 0 ∧ ws = word b)) ∧ Ext w w' := by
  obtain ⟨A, c, rfl⟩ := hx.form
  have H := HS.refl w
  refine calls_run Try.func109 (by kernel_rfl) ?_
  refine run_alloc (t := 141) (v := .agg (tab 13 fun _ => .int .u64 0)) H (by kernel_rfl) (by kernel_rfl) fun b2 wc H => ?_
  refine run_alloc (t := 141) (v := .agg (tab 13 fun _ => .int .u64 0)) H (by kernel_rfl) (by kernel_rfl) fun b4 wc H => ?_
  refine run_if (p := (b.length : Int) < 104) (by kernel_rfl) (by kernel_rfl) (fun hc => ?_) (fun hc => ?_)
  · refine run_ld (n := 0) (t := 141) (off := 0) (v := .agg (tab 13 fun _ => .int .u64 0)) H rfl (by kernel_rfl) (by kernel_rfl) (by kernel_rfl) ?_
    refine run_st (n := 1) (t := 141) (off := 0) (v := .agg (tab 13 fun _ => .int .u64 0)) (cs' := tab 13 fun _ => .int .u64 0) H rfl (by kernel_rfl) (by kernel_rfl) (by kernel_rfl) fun wc H => ?_
    exact run_ret (v := .tuple #[.agg (tab 13 fun _ => .int .u64 0), .int .i64 7]) (by kernel_rfl) (by kernel_rfl) (resN Try.results109 (vs := [.agg (tab 13 fun _ => .int .u64 0), .int .i64 7]) (by simp) ⟨rv_cell (H.blk 1 rfl) (by kernel_rfl) (by kernel_rfl), rv_tmp (by kernel_rfl), trivial⟩) ⟨fun _ => 0, 7, rfl, .inl ⟨by omega, rfl⟩, H.below⟩
  have h1 := hc
  clear hc
  refine run_if (p := (b.length : Int) > 104) (by kernel_rfl) (by kernel_rfl) (fun hc => ?_) (fun hc => ?_)
  · refine run_ld (n := 0) (t := 141) (off := 0) (v := .agg (tab 13 fun _ => .int .u64 0)) H rfl (by kernel_rfl) (by kernel_rfl) (by kernel_rfl) ?_
    refine run_st (n := 1) (t := 141) (off := 0) (v := .agg (tab 13 fun _ => .int .u64 0)) (cs' := tab 13 fun _ => .int .u64 0) H rfl (by kernel_rfl) (by kernel_rfl) (by kernel_rfl) fun wc H => ?_
    exact run_ret (v := .tuple #[.agg (tab 13 fun _ => .int .u64 0), .int .i64 8]) (by kernel_rfl) (by kernel_rfl) (resN Try.results109 (vs := [.agg (tab 13 fun _ => .int .u64 0), .int .i64 8]) (by simp) ⟨rv_cell (H.blk 1 rfl) (by kernel_rfl) (by kernel_rfl), rv_tmp (by kernel_rfl), trivial⟩) ⟨fun _ => 0, 8, rfl, .inr (.inl ⟨by omega, rfl⟩), H.below⟩
  have h2 := hc
  clear hc
  have hb : b.length = 104 := by omega
  have H : HS w wc [Ck.blk b4 141 (tab 13 fun j => .int .u64 (wd b 0 j)), Ck.blk b2 141 (tab 13 fun _ => .int .u64 0)] := by
    rw [tab_congr (f := fun j => Value.int .u64 (wd b 0 j)) (g := fun _ => Value.int .u64 0) (fun i _ => by rw [wd_zero])]
    exact H
  refine run_loop (fun m a w' => ∃ k, m = 104 - k ∧ k ≤ 104 ∧ (∃ u, a = env 35 u [(0, .slice A b.length c), (2, .pointer (some ⟨b2, 0, none⟩)), (4, .pointer (some ⟨b4, 0, none⟩)), (16, .int .i64 (k : Int))]) ∧
    HS w w' [Ck.blk b4 141 (tab 13 fun j => .int .u64 (wd b k j)), Ck.blk b2 141 (tab 13 fun _ => .int .u64 0)]) _ (by kernel_rfl) ⟨0, rfl, Nat.zero_le _, env_intro (by kernel_rfl) (by kernel_rfl) (by kernel_rfl), H⟩ ?_
  clear H
  rintro m a w' ⟨k, rfl, hk, ⟨u, rfl⟩, H⟩ next
  refine run_if (p := (k : Int) < 104) (by kernel_rfl) (by kernel_rfl) (fun hc => ?_) (fun hc => ?_)
  · have hlt : k < b.length := by omega
    have hget := List.getElem?_eq_getElem hlt
    generalize b[k] = cc at hget
    refine run_draw follows (by kernel_rfl) fun wD hE => ?_
    replace H := H.ext hE
    obtain ⟨bb, o, cs, rfl, ⟨hcs, -⟩, hcell⟩ := (hx.ext H.below).get hget
    subst hcs
    have h13 : k / 8 < 13 := by omega
    have hdv := tdiv_nat k 8 (by omega)
    have hB := H.blk 0 rfl
    refine rob_light (.pointer (some ⟨b4, 0 + k / 8 * 1, none⟩)) wD (by kernel_rfl) rfl (fun _ _ => op_indexA (t := 141) (e := 24) (n := 13) (k := .i64) (i := IntKind.i64.wrap ((k : Int).tdiv 8)) (by kernel_rfl) (by kernel_rfl) (by kernel_rfl) hdv h13) ?_
    refine rob_light (.int .u64 (wd b k (k / 8))) wD (by kernel_rfl) rfl (fun w' hE => op_load1 (t := 24) (off := 0 + k / 8 * 1) (by kernel_rfl) (by kernel_rfl) (hB.ext hE) (by rw [Nat.zero_add, Nat.mul_one]; exact tab_get h13)) ?_
    refine rob_light (.pointer (some ⟨bb, o + k * 1, none⟩)) wD (by kernel_rfl) (by kernel_rfl) (fun _ _ => op_indexN (t := 27) (e := 5) (n := b.length) (c := c) (k := .i64) (by kernel_rfl) (by kernel_rfl) (by kernel_rfl) (hlt)) ?_
    refine rob_light (.int .u8 (cc.toNat : Int)) wD (by kernel_rfl) rfl (fun w' hE => op_load (t := 5) (b := bb) (off := o + k * 1) (by kernel_rfl) (run_loadVar_one (by kernel_rfl) (cell_ext (hcell 0 _ rfl) hE))) ?_
    refine rob_light (.pointer (some ⟨b4, 0 + k / 8 * 1, none⟩)) wD (by kernel_rfl) rfl (fun _ _ => op_indexA (t := 141) (e := 24) (n := 13) (k := .i64) (i := IntKind.i64.wrap ((k : Int).tdiv 8)) (by kernel_rfl) (by kernel_rfl) (by kernel_rfl) hdv h13) ?_
    refine rob_bar (by kernel_rfl) (by kernel_rfl) (op_store1 (t := 24) (b := b4) (off := 0 + k / 8 * 1) (v := .int .u64 (bor .u64 (IntKind.u64.wrap (wd b k (k / 8) * 2 ^ 8)) (IntKind.u64.wrap (cc.toNat : Int)))) (by kernel_rfl) hB (by kernel_rfl) (by rw [tab_size]; omega) rfl rfl) ?_
    have H := H.putU 0 rfl ((tab 13 fun j => .int .u64 (wd b k j)).setIfInBounds (0 + k / 8 * 1) (.int .u64 (bor .u64 (IntKind.u64.wrap (wd b k (k / 8) * 2 ^ 8)) (IntKind.u64.wrap (cc.toNat : Int)))))
    refine rob_done (by kernel_rfl) ?_
    refine run_at (by kernel_rfl) (next (104 - (k + 1)) _ _ (by omega) ⟨k + 1, rfl, by omega, ?_, ?_⟩)
    · rw [← wrap_succ (by omega)]
      exact env_intro (by kernel_rfl) (by kernel_rfl) (by kernel_rfl)
    · rw [tab_set] at H
      rw [tab_set, tab_congr (f := fun j => Value.int .u64 (wd b (k + 1) j)) (g := fun i => if i = 0 + k / 8 * 1 then Value.int .u64 (bor .u64 (IntKind.u64.wrap (wd b k (k / 8) * 2 ^ 8)) (IntKind.u64.wrap (cc.toNat : Int))) else Value.int .u64 (wd b k i)) (fun i _ => by
        rw [wd_next hget, Nat.zero_add, Nat.mul_one]
        split
        · rename_i he; subst he; rw [bor_byte (wd_bound b k _).1 (wd_small b k) cc.toNat_lt]
        · rfl)]
      exact H
  · obtain rfl : k = 104 := by omega
    refine run_ld (n := 0) (t := 141) (off := 0) (v := .agg (tab 13 fun j => .int .u64 (wd b 104 j))) H rfl (by kernel_rfl) (by kernel_rfl) (by kernel_rfl) ?_
    refine run_st (n := 1) (t := 141) (off := 0) (v := .agg (tab 13 fun j => .int .u64 (wd b 104 j))) (cs' := tab 13 fun j => .int .u64 (wd b 104 j)) H rfl (by kernel_rfl) (by kernel_rfl) (by kernel_rfl) fun wc H => ?_
    exact run_ret (v := .tuple #[.agg (tab 13 fun j => .int .u64 (wd b 104 j)), .int .i64 0]) (by kernel_rfl) (by kernel_rfl) (resN Try.results109 (vs := [.agg (tab 13 fun j => .int .u64 (wd b 104 j)), .int .i64 0]) (by simp) ⟨rv_cell (H.blk 1 rfl) (by kernel_rfl) (by kernel_rfl), rv_tmp (by kernel_rfl), trivial⟩) ⟨wd b 104, 0, rfl, .inr (.inr ⟨hb, rfl, rfl⟩), H.below⟩
end Go.Proofs.Ythmajhdemooecaa
