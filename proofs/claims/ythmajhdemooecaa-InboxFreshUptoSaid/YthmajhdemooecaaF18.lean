/- The walks of the document's messages: words, sums, May, Read, Brings. -/
import Derived.Test.YthmajhdemooecaaF17
namespace Go.Proofs.Ythmajhdemooecaa
open Go.PM Go.RowKit
set_option linter.unusedVariables false
set_option linter.unusedSimpArgs false
set_option linter.unnecessarySimpa false
attribute [local irreducible] adv advD advF fuel

theorem pf83 : plainFn Try.prog 83 = true := by kernel_rfl
theorem pf84 : plainFn Try.prog 84 = true := by kernel_rfl
theorem pf49 : plainFn Try.prog 49 = true := by kernel_rfl
theorem pf44 : plainFn Try.prog 44 = true := by kernel_rfl
theorem pf12 : plainFn Try.prog 12 = true := by kernel_rfl

set_option maxHeartbeats 1000000 in
theorem words83_calls {b : Bytes} {v : Value} {w : World} (hx : Sl Ty.u8 w Any b v) :
    Calls Try.prog 83 #[v] w fun e w' => ∃ (ws : Nat → Int) (er : Int), e = .returned (.tuple #[.agg (tab 13 fun j => .int .u64 (ws j)), .int .i64 er]) ∧ ((b.length < 104 ∧ er = 7) ∨ (104 < b.length ∧ er = 8) ∨ (b.length = 104 ∧ er = 0 ∧ ws = word b)) ∧ Ext w w' := by
  obtain ⟨A, c, rfl⟩ := hx.form
  have H := HS.refl w
  refine calls_run Try.func83 (by kernel_rfl) ?_
  refine run_alloc (t := 141) (v := .agg (tab 13 fun _ => .int .u64 0)) H (by kernel_rfl) (by kernel_rfl) fun b2 wc H => ?_
  refine run_alloc (t := 141) (v := .agg (tab 13 fun _ => .int .u64 0)) H (by kernel_rfl) (by kernel_rfl) fun b4 wc H => ?_
  refine run_if (p := (b.length : Int) < 104) (by kernel_rfl) (by kernel_rfl) (fun hc => ?_) (fun hc => ?_)
  · refine run_ld (n := 0) (t := 141) (off := 0) (v := .agg (tab 13 fun _ => .int .u64 0)) H rfl (by kernel_rfl) (by kernel_rfl) (by kernel_rfl) ?_
    refine run_st (n := 1) (t := 141) (off := 0) (v := .agg (tab 13 fun _ => .int .u64 0)) (cs' := tab 13 fun _ => .int .u64 0) H rfl (by kernel_rfl) (by kernel_rfl) (by kernel_rfl) fun wc H => ?_
    exact run_ret (v := .tuple #[.agg (tab 13 fun _ => .int .u64 0), .int .i64 7]) (by kernel_rfl) (by kernel_rfl) (resN Try.results83 (vs := [.agg (tab 13 fun _ => .int .u64 0), .int .i64 7]) (by simp) ⟨rv_cell (H.blk 1 rfl) (by kernel_rfl) (by kernel_rfl), rv_tmp (by kernel_rfl), trivial⟩) ⟨fun _ => 0, 7, rfl, .inl ⟨by omega, rfl⟩, H.below⟩
  have h1 := hc
  clear hc
  refine run_if (p := (b.length : Int) > 104) (by kernel_rfl) (by kernel_rfl) (fun hc => ?_) (fun hc => ?_)
  · refine run_ld (n := 0) (t := 141) (off := 0) (v := .agg (tab 13 fun _ => .int .u64 0)) H rfl (by kernel_rfl) (by kernel_rfl) (by kernel_rfl) ?_
    refine run_st (n := 1) (t := 141) (off := 0) (v := .agg (tab 13 fun _ => .int .u64 0)) (cs' := tab 13 fun _ => .int .u64 0) H rfl (by kernel_rfl) (by kernel_rfl) (by kernel_rfl) fun wc H => ?_
    exact run_ret (v := .tuple #[.agg (tab 13 fun _ => .int .u64 0), .int .i64 8]) (by kernel_rfl) (by kernel_rfl) (resN Try.results83 (vs := [.agg (tab 13 fun _ => .int .u64 0), .int .i64 8]) (by simp) ⟨rv_cell (H.blk 1 rfl) (by kernel_rfl) (by kernel_rfl), rv_tmp (by kernel_rfl), trivial⟩) ⟨fun _ => 0, 8, rfl, .inr (.inl ⟨by omega, rfl⟩), H.below⟩
  have h2 := hc
  clear hc
  have hb : b.length = 104 := by omega
  have H : HS w wc [Ck.blk b4 141 (tab 13 fun j => .int .u64 (wd b 0 j)), Ck.blk b2 141 (tab 13 fun _ => .int .u64 0)] := by
    rw [tab_congr (f := fun j => Value.int .u64 (wd b 0 j)) (g := fun _ => Value.int .u64 0) (fun i _ => by rw [wd_zero])]
    exact H
  refine run_loop (fun m a w' => ∃ k, m = 104 - k ∧ k ≤ 104 ∧ (∃ u, a = env 33 u [(0, .slice A b.length c), (2, .pointer (some ⟨b2, 0, none⟩)), (4, .pointer (some ⟨b4, 0, none⟩)), (5, .int .i64 (k : Int))]) ∧
    HS w w' [Ck.blk b4 141 (tab 13 fun j => .int .u64 (wd b k j)), Ck.blk b2 141 (tab 13 fun _ => .int .u64 0)]) _ (by kernel_rfl) ⟨0, rfl, Nat.zero_le _, env_intro (by kernel_rfl) (by kernel_rfl) (by kernel_rfl), H⟩ ?_
  clear H
  rintro m a w' ⟨k, rfl, hk, ⟨u, rfl⟩, H⟩ next
  refine run_if (p := (k : Int) < 104) (by kernel_rfl) (by kernel_rfl) (fun hc => ?_) (fun hc => ?_)
  · have hlt : k < b.length := by omega
    have hget := List.getElem?_eq_getElem hlt
    generalize b[k] = cc at hget
    refine run_draw follows (by kernel_rfl) fun wD hE => ?_
    replace H := H.ext hE
    obtain ⟨bb, o, cs, rfl, ⟨hcs, -⟩, hcell⟩ := (hx.ext H.below).get hget
    subst hcs
    have h13 : k / 8 < 13 := by omega
    have hdv := tdiv_nat k 8 (by omega)
    have hB := H.blk 0 rfl
    refine rob_light (.pointer (some ⟨b4, 0 + k / 8 * 1, none⟩)) wD (by kernel_rfl) rfl (fun _ _ => op_indexA (t := 141) (e := 24) (n := 13) (k := .i64) (i := IntKind.i64.wrap ((k : Int).tdiv 8)) (by kernel_rfl) (by kernel_rfl) (by kernel_rfl) hdv h13) ?_
    refine rob_light (.int .u64 (wd b k (k / 8))) wD (by kernel_rfl) rfl (fun w' hE => op_load1 (t := 24) (off := 0 + k / 8 * 1) (by kernel_rfl) (by kernel_rfl) (hB.ext hE) (by rw [Nat.zero_add, Nat.mul_one]; exact tab_get h13)) ?_
    refine rob_light (.pointer (some ⟨bb, o + k * 1, none⟩)) wD (by kernel_rfl) (by kernel_rfl) (fun _ _ => op_indexN (t := 27) (e := 5) (n := b.length) (c := c) (k := .i64) (by kernel_rfl) (by kernel_rfl) (by kernel_rfl) (hlt)) ?_
    refine rob_light (.int .u8 (cc.toNat : Int)) wD (by kernel_rfl) rfl (fun w' hE => op_load (t := 5) (b := bb) (off := o + k * 1) (by kernel_rfl) (run_loadVar_one (by kernel_rfl) (cell_ext (hcell 0 _ rfl) hE))) ?_
    refine rob_light (.pointer (some ⟨b4, 0 + k / 8 * 1, none⟩)) wD (by kernel_rfl) rfl (fun _ _ => op_indexA (t := 141) (e := 24) (n := 13) (k := .i64) (i := IntKind.i64.wrap ((k : Int).tdiv 8)) (by kernel_rfl) (by kernel_rfl) (by kernel_rfl) hdv h13) ?_
    refine rob_bar (by kernel_rfl) (by kernel_rfl) (op_store1 (t := 24) (b := b4) (off := 0 + k / 8 * 1) (v := .int .u64 (bor .u64 (IntKind.u64.wrap (wd b k (k / 8) * 2 ^ 8)) (IntKind.u64.wrap (cc.toNat : Int)))) (by kernel_rfl) hB (by kernel_rfl) (by rw [tab_size]; omega) rfl rfl) ?_
    have H := H.putU 0 rfl ((tab 13 fun j => .int .u64 (wd b k j)).setIfInBounds (0 + k / 8 * 1) (.int .u64 (bor .u64 (IntKind.u64.wrap (wd b k (k / 8) * 2 ^ 8)) (IntKind.u64.wrap (cc.toNat : Int)))))
    refine rob_done (by kernel_rfl) ?_
    refine run_at (by kernel_rfl) (next (104 - (k + 1)) _ _ (by omega) ⟨k + 1, rfl, by omega, ?_, ?_⟩)
    · rw [← wrap_succ (by omega)]
      exact env_intro (by kernel_rfl) (by kernel_rfl) (by kernel_rfl)
    · rw [tab_set] at H
      rw [tab_set, tab_congr (f := fun j => Value.int .u64 (wd b (k + 1) j)) (g := fun i => if i = 0 + k / 8 * 1 then Value.int .u64 (bor .u64 (IntKind.u64.wrap (wd b k (k / 8) * 2 ^ 8)) (IntKind.u64.wrap (cc.toNat : Int))) else Value.int .u64 (wd b k i)) (fun i _ => by
        rw [wd_next hget, Nat.zero_add, Nat.mul_one]
        split
        · rename_i he; subst he; rw [bor_byte (wd_bound b k _).1 (wd_small b k) cc.toNat_lt]
        · rfl)]
      exact H
  · obtain rfl : k = 104 := by omega
    refine run_ld (n := 0) (t := 141) (off := 0) (v := .agg (tab 13 fun j => .int .u64 (wd b 104 j))) H rfl (by kernel_rfl) (by kernel_rfl) (by kernel_rfl) ?_
    refine run_st (n := 1) (t := 141) (off := 0) (v := .agg (tab 13 fun j => .int .u64 (wd b 104 j))) (cs' := tab 13 fun j => .int .u64 (wd b 104 j)) H rfl (by kernel_rfl) (by kernel_rfl) (by kernel_rfl) fun wc H => ?_
    exact run_ret (v := .tuple #[.agg (tab 13 fun j => .int .u64 (wd b 104 j)), .int .i64 0]) (by kernel_rfl) (by kernel_rfl) (resN Try.results83 (vs := [.agg (tab 13 fun j => .int .u64 (wd b 104 j)), .int .i64 0]) (by simp) ⟨rv_cell (H.blk 1 rfl) (by kernel_rfl) (by kernel_rfl), rv_tmp (by kernel_rfl), trivial⟩) ⟨wd b 104, 0, rfl, .inr (.inr ⟨hb, rfl, rfl⟩), H.below⟩
set_option maxHeartbeats 1000000 in
theorem from84_calls (f : Nat → Int) (w : World) :
    Calls Try.prog 84 #[.agg (tab 4 fun j => .int .u64 (f j))] w fun e w' => e = .returned (.agg (tab 32 fun i => .int .u8 (hb f i))) ∧ Ext w w' := by
  have H := HS.refl w
  refine calls_run Try.func84 (by kernel_rfl) ?_
  refine run_box (t := 145) (v := .agg (tab 4 fun j => .int .u64 (f j))) H (by kernel_rfl) (by kernel_rfl) fun b1 wc H => ?_
  refine run_alloc (t := 47) (v := .agg (tab 32 fun _ => .int .u8 0)) H (by kernel_rfl) (by kernel_rfl) fun b2 wc H => ?_
  refine run_alloc (t := 47) (v := .agg (tab 32 fun _ => .int .u8 0)) H (by kernel_rfl) (by kernel_rfl) fun b3 wc H => ?_
  have H : HS w wc [Ck.blk b3 47 (tab 32 fun i => if i < 0 then .int .u8 (hb f i) else .int .u8 0), Ck.blk b2 47 (tab 32 fun _ => .int .u8 0), Ck.blk b1 145 (tab 4 fun j => .int .u64 (f j))] := H
  refine run_loop (fun m a w' => ∃ k, m = 32 - k ∧ k ≤ 32 ∧ (∃ u, a = env 23 u [(1, .pointer (some ⟨b1, 0, none⟩)), (2, .pointer (some ⟨b2, 0, none⟩)), (3, .pointer (some ⟨b3, 0, none⟩)), (4, .int .i64 (k : Int))]) ∧
    HS w w' [Ck.blk b3 47 (tab 32 fun i => if i < k then .int .u8 (hb f i) else .int .u8 0), Ck.blk b2 47 (tab 32 fun _ => .int .u8 0), Ck.blk b1 145 (tab 4 fun j => .int .u64 (f j))]) _ (by kernel_rfl) ⟨0, rfl, Nat.zero_le _, env_intro (by kernel_rfl) (by kernel_rfl) (by kernel_rfl), H⟩ ?_
  clear H
  rintro m a w' ⟨k, rfl, hk, ⟨u, rfl⟩, H⟩ next
  refine run_if (p := (k : Int) < 32) (by kernel_rfl) (by kernel_rfl) (fun hc => ?_) (fun hc => ?_)
  · have hlt : k < 32 := by omega
    have h4 : k / 8 < 4 := by omega
    have hdv := tdiv_nat k 8 (by omega)
    refine run_val (v := .pointer (some ⟨b1, 0 + k / 8 * 1, none⟩)) (by kernel_rfl) (op_indexA (t := 145) (e := 24) (n := 4) (k := .i64) (i := IntKind.i64.wrap ((k : Int).tdiv 8)) (by kernel_rfl) (by kernel_rfl) (by kernel_rfl) hdv h4) ?_
    refine run_val (v := .int .u64 (f (k / 8))) (by kernel_rfl) (op_load1 (t := 24) (off := 0 + k / 8 * 1) (by kernel_rfl) (by kernel_rfl) (H.blk 2 rfl) (by rw [Nat.zero_add, Nat.mul_one]; exact tab_get h4)) ?_
    refine run_val (v := .int .u64 ((f (k / 8)).fdiv (2 ^ (56 - 8 * (k % 8))))) (by kernel_rfl) (op_shr (t := 24) (k := .u64) (yk := .u64) (y := IntKind.u64.wrap (IntKind.i64.wrap (56 - IntKind.i64.wrap (8 * (k : Int).tmod 8)))) (by kernel_rfl) (by rw [sh_num k hlt]; exact u64_nat (by omega)) (by show _ ≤ 64; omega)) ?_
    refine run_val (v := .pointer (some ⟨b3, 0 + k * 1, none⟩)) (by kernel_rfl) (op_indexA (t := 47) (e := 5) (n := 32) (k := .i64) (i := (k : Int)) (by kernel_rfl) (by kernel_rfl) (by kernel_rfl) rfl hlt) ?_
    refine run_unit (by kernel_rfl) (op_store1 (t := 5) (b := b3) (off := 0 + k * 1) (v := .int .u8 (hb f k)) (by kernel_rfl) (H.blk 0 rfl) (by kernel_rfl) (by rw [tab_size]; omega) rfl rfl) ?_
    have H := H.putU 0 rfl ((tab 32 fun i => if i < k then Value.int .u8 (hb f i) else .int .u8 0).setIfInBounds (0 + k * 1) (.int .u8 (hb f k)))
    refine run_at (by kernel_rfl) (next (32 - (k + 1)) _ _ (by omega) ⟨k + 1, rfl, by omega, ?_, ?_⟩)
    · rw [← wrap_succ (by omega)]
      exact env_intro (by kernel_rfl) (by kernel_rfl) (by kernel_rfl)
    · rw [tab_set] at H
      rw [tab_set, tab_congr (f := fun i => if i < k + 1 then Value.int .u8 (hb f i) else .int .u8 0) (g := fun i => if i = 0 + k * 1 then Value.int .u8 (hb f k) else if i < k then Value.int .u8 (hb f i) else .int .u8 0) (fun i _ => by
        rw [Nat.zero_add, Nat.mul_one]
        by_cases he : i = k
        · subst he; simp
        · rw [if_neg he]
          by_cases hl : i < k
          · rw [if_pos hl, if_pos (by omega)]
          · rw [if_neg hl, if_neg (by omega)])]
      exact H
  · obtain rfl : k = 32 := by omega
    have e : (tab 32 fun i => if i < 32 then Value.int .u8 (hb f i) else .int .u8 0) = tab 32 fun i => .int .u8 (hb f i) := tab_congr fun i hi => if_pos hi
    rw [e] at H
    refine run_ld (n := 0) (t := 47) (off := 0) (v := .agg (tab 32 fun i => .int .u8 (hb f i))) H rfl (by kernel_rfl) (by kernel_rfl) (by kernel_rfl) ?_
    refine run_st (n := 1) (t := 47) (off := 0) (v := .agg (tab 32 fun i => .int .u8 (hb f i))) (cs' := tab 32 fun i => .int .u8 (hb f i)) H rfl (by kernel_rfl) (by kernel_rfl) (by kernel_rfl) fun wc H => ?_
    exact run_ret (v := .agg (tab 32 fun i => .int .u8 (hb f i))) (by kernel_rfl) (by kernel_rfl) (res1 Try.results84 (rv_cell (H.blk 1 rfl) (by kernel_rfl) (by kernel_rfl))) ⟨rfl, H.below⟩


theorem kinds47 : kindsT Try.prog 2 47 = some (List.replicate 32 .u8) := by kernel_rfl
theorem key47 : Try.prog.keyTypeAt 2 47 = true := by kernel_rfl
theorem guard47 : Try.prog.eqGuardType Try.prog.depth 47 = false := by kernel_rfl
theorem formed47 {a : Array Value} (h : a.size = 32) : (Value.agg a).formed Try.prog 47 = true := by
  unfold Value.formed
  rw [show Try.prog.underlying 47 = some (.array 32 5) by kernel_rfl]
  show (a.size == Try.prog.cellsOf 47) = true
  rw [h]
  kernel_rfl
theorem ints32 {f : Nat → Int} (h : ∀ i, (Lit.int .u8 (f i)).wf = true) : IntsOf (List.replicate 32 .u8) (tab 32 fun i => .int .u8 (f i)).toList := ints_range .u8 f h 32
theorem tab32_zero (f : Nat → Int) : (tab 32 fun i => Value.int .u8 (f i)) = (tab 32 fun _ => .int .u8 0) ↔ ∀ i, i < 32 → f i = 0 := by
  constructor
  · intro h i hi
    have h1 := tab_get (f := fun i => Value.int .u8 (f i)) hi
    rw [h, tab_get hi] at h1
    injection h1 with h1
    injection h1 with _ h1
    exact h1.symm
  · intro h
    exact tab_congr fun i hi => by rw [h i hi]

set_option maxHeartbeats 1000000 in
theorem may49_calls {m : Msg} (hm : m.ok) (w : World) :
    Calls Try.prog 49 #[.agg (msgA m)] w fun e w' => ∃ r : Bool, e = .returned (.bool r) ∧ (m.kind = 1 → (r = true ↔ m.dep)) ∧ Ext w w' := by
  have H := HS.refl w
  have ham : 0 ≤ m.am := by have := hm.2.2.2.1; simp [Lit.wf, IntKind.min, IntKind.max, IntKind.signed, IntKind.bits] at this; omega
  refine calls_run Try.func49 (by kernel_rfl) ?_
  refine run_box (t := 49) (v := .agg (msgA m)) H (by kernel_rfl) (by kernel_rfl) fun b1 wc H => ?_
  refine run_ld (n := 0) (t := 24) (off := 4) (v := .int .u64 m.no) H rfl (by kernel_rfl) (by kernel_rfl) (by kernel_rfl) ?_
  refine run_ask (m.no = 0) (by kernel_rfl) (by kernel_rfl) (fun hc => ?_) (fun hc => ?_)
  · refine run_ld (n := 0) (t := 47) (off := 5) (v := .agg (tab 32 fun i => .int .u8 (m.key i))) H rfl (by kernel_rfl) (by kernel_rfl) (by kernel_rfl) ?_
    refine run_eqv (m := 2) (xs := (tab 32 fun i => .int .u8 (m.key i))) (ys := (tab 32 fun _ => .int .u8 0)) (by kernel_rfl) (by kernel_rfl) guard47 kinds47 key47 (by decide) (ints32 hm.2.2.2.2.2.1) (ints32 fun _ => rfl) (formed47 rfl) (formed47 rfl) fun r1 hr1 => ?_
    have hz_r1 := hr1.trans (tab32_zero _)
    refine run_askB (r1) (by kernel_rfl) (by kernel_rfl) (fun hc => ?_) (fun hc => ?_)
    · refine run_ld (n := 0) (t := 47) (off := 37) (v := .agg (tab 32 fun i => .int .u8 (m.nxt i))) H rfl (by kernel_rfl) (by kernel_rfl) (by kernel_rfl) ?_
      refine run_eqv (m := 2) (xs := (tab 32 fun i => .int .u8 (m.nxt i))) (ys := (tab 32 fun _ => .int .u8 0)) (by kernel_rfl) (by kernel_rfl) guard47 kinds47 key47 (by decide) (ints32 hm.2.2.2.2.2.2) (ints32 fun _ => rfl) (formed47 rfl) (formed47 rfl) fun r2 hr2 => ?_
      have hz_r2 := hr2.trans (tab32_zero _)
      refine run_ld (n := 0) (t := 45) (off := 0) (v := .int .u8 m.kind) H rfl (by kernel_rfl) (by kernel_rfl) (by kernel_rfl) ?_
      refine run_if (p := m.kind = 1) (by kernel_rfl) (by kernel_rfl) (fun hc => ?_) (fun hc => ?_)
      · refine run_ld (n := 0) (t := 24) (off := 1) (v := .int .u64 m.fr) H rfl (by kernel_rfl) (by kernel_rfl) (by kernel_rfl) ?_
        refine run_ask (m.fr = 0) (by kernel_rfl) (by kernel_rfl) (fun hc => ?_) (fun hc => ?_)
        · refine run_ld (n := 0) (t := 24) (off := 2) (v := .int .u64 m.to) H rfl (by kernel_rfl) (by kernel_rfl) (by kernel_rfl) ?_
          refine run_ask (m.to < 32) (by kernel_rfl) (by kernel_rfl) (fun hc => ?_) (fun hc => ?_)
          · refine run_ld (n := 0) (t := 24) (off := 3) (v := .int .u64 m.am) H rfl (by kernel_rfl) (by kernel_rfl) (by kernel_rfl) ?_
            refine run_ask (m.am > 0) (by kernel_rfl) (by kernel_rfl) (fun hc => ?_) (fun hc => ?_)
            · exact run_ret (v := .bool (r2)) (by kernel_rfl) (by kernel_rfl) (by kernel_rfl) (⟨_, rfl, fun h => ⟨fun h9 => ⟨(by omega), (by omega), (by omega), (by omega), hz_r1.1 (by assumption), hz_r2.1 h9⟩, fun h9 => hz_r2.2 h9.2.2.2.2.2⟩, H.below⟩)
              -- H : Ck.blk b1 49 (msgA m)
            · exact run_ret (v := .bool false) (by kernel_rfl) (by kernel_rfl) (by kernel_rfl) (⟨_, rfl, fun h => (by first | (exact absurd h (by assumption)) | exact ⟨fun h9 => (by cases h9), fun h9 => (by first | (have := h9.1; have := h9.2.1; have := h9.2.2.1; have := h9.2.2.2.1; omega) | (have := hz_r1.2 h9.2.2.2.2.1; simp_all))⟩), H.below⟩)
              -- H : Ck.blk b1 49 (msgA m)
          · refine run_lit (.bool false) (by kernel_rfl) (by kernel_rfl) ?_
            exact run_ret (v := .bool false) (by kernel_rfl) (by kernel_rfl) (by kernel_rfl) (⟨_, rfl, fun h => (by first | (exact absurd h (by assumption)) | exact ⟨fun h9 => (by cases h9), fun h9 => (by first | (have := h9.1; have := h9.2.1; have := h9.2.2.1; have := h9.2.2.2.1; omega) | (have := hz_r1.2 h9.2.2.2.2.1; simp_all))⟩), H.below⟩)
            -- H : Ck.blk b1 49 (msgA m)
        · refine run_lit (.bool false) (by kernel_rfl) (by kernel_rfl) ?_
          refine run_lit (.bool false) (by kernel_rfl) (by kernel_rfl) ?_
          exact run_ret (v := .bool false) (by kernel_rfl) (by kernel_rfl) (by kernel_rfl) (⟨_, rfl, fun h => (by first | (exact absurd h (by assumption)) | exact ⟨fun h9 => (by cases h9), fun h9 => (by first | (have := h9.1; have := h9.2.1; have := h9.2.2.1; have := h9.2.2.2.1; omega) | (have := hz_r1.2 h9.2.2.2.2.1; simp_all))⟩), H.below⟩)
          -- H : Ck.blk b1 49 (msgA m)
      · refine run_if (p := m.kind = 2) (by kernel_rfl) (by kernel_rfl) (fun hc => ?_) (fun hc => ?_)
        · refine run_ld (n := 0) (t := 24) (off := 1) (v := .int .u64 m.fr) H rfl (by kernel_rfl) (by kernel_rfl) (by kernel_rfl) ?_
          refine run_ask (m.fr < 32) (by kernel_rfl) (by kernel_rfl) (fun hc => ?_) (fun hc => ?_)
          · refine run_ld (n := 0) (t := 24) (off := 2) (v := .int .u64 m.to) H rfl (by kernel_rfl) (by kernel_rfl) (by kernel_rfl) ?_
            exact run_ret (v := .bool (decide (m.to < 32))) (by kernel_rfl) (by kernel_rfl) (by kernel_rfl) (⟨_, rfl, fun h => absurd h (by assumption), H.below⟩)
            -- H : Ck.blk b1 49 (msgA m)
          · exact run_ret (v := .bool false) (by kernel_rfl) (by kernel_rfl) (by kernel_rfl) (⟨_, rfl, fun h => (by first | (exact absurd h (by assumption)) | exact ⟨fun h9 => (by cases h9), fun h9 => (by first | (have := h9.1; have := h9.2.1; have := h9.2.2.1; have := h9.2.2.2.1; omega) | (have := hz_r1.2 h9.2.2.2.2.1; simp_all))⟩), H.below⟩)
            -- H : Ck.blk b1 49 (msgA m)
        · refine run_if (p := m.kind = 3) (by kernel_rfl) (by kernel_rfl) (fun hc => ?_) (fun hc => ?_)
          · refine run_ld (n := 0) (t := 24) (off := 1) (v := .int .u64 m.fr) H rfl (by kernel_rfl) (by kernel_rfl) (by kernel_rfl) ?_
            refine run_ask (m.fr < 32) (by kernel_rfl) (by kernel_rfl) (fun hc => ?_) (fun hc => ?_)
            · refine run_ld (n := 0) (t := 24) (off := 3) (v := .int .u64 m.am) H rfl (by kernel_rfl) (by kernel_rfl) (by kernel_rfl) ?_
              exact run_ret (v := .bool (decide (m.am > 0))) (by kernel_rfl) (by kernel_rfl) (by kernel_rfl) (⟨_, rfl, fun h => absurd h (by assumption), H.below⟩)
              -- H : Ck.blk b1 49 (msgA m)
            · exact run_ret (v := .bool false) (by kernel_rfl) (by kernel_rfl) (by kernel_rfl) (⟨_, rfl, fun h => (by first | (exact absurd h (by assumption)) | exact ⟨fun h9 => (by cases h9), fun h9 => (by first | (have := h9.1; have := h9.2.1; have := h9.2.2.1; have := h9.2.2.2.1; omega) | (have := hz_r1.2 h9.2.2.2.2.1; simp_all))⟩), H.below⟩)
              -- H : Ck.blk b1 49 (msgA m)
          · exact run_ret (v := .bool false) (by kernel_rfl) (by kernel_rfl) (by kernel_rfl) (⟨_, rfl, fun h => (by first | (exact absurd h (by assumption)) | exact ⟨fun h9 => (by cases h9), fun h9 => (by first | (have := h9.1; have := h9.2.1; have := h9.2.2.1; have := h9.2.2.2.1; omega) | (have := hz_r1.2 h9.2.2.2.2.1; simp_all))⟩), H.below⟩)
            -- H : Ck.blk b1 49 (msgA m)
    · refine run_ld (n := 0) (t := 45) (off := 0) (v := .int .u8 m.kind) H rfl (by kernel_rfl) (by kernel_rfl) (by kernel_rfl) ?_
      refine run_if (p := m.kind = 1) (by kernel_rfl) (by kernel_rfl) (fun hc => ?_) (fun hc => ?_)
      · refine run_ld (n := 0) (t := 24) (off := 1) (v := .int .u64 m.fr) H rfl (by kernel_rfl) (by kernel_rfl) (by kernel_rfl) ?_
        refine run_ask (m.fr = 0) (by kernel_rfl) (by kernel_rfl) (fun hc => ?_) (fun hc => ?_)
        · refine run_ld (n := 0) (t := 24) (off := 2) (v := .int .u64 m.to) H rfl (by kernel_rfl) (by kernel_rfl) (by kernel_rfl) ?_
          refine run_ask (m.to < 32) (by kernel_rfl) (by kernel_rfl) (fun hc => ?_) (fun hc => ?_)
          · refine run_ld (n := 0) (t := 24) (off := 3) (v := .int .u64 m.am) H rfl (by kernel_rfl) (by kernel_rfl) (by kernel_rfl) ?_
            refine run_ask (m.am > 0) (by kernel_rfl) (by kernel_rfl) (fun hc => ?_) (fun hc => ?_)
            · exact run_ret (v := .bool false) (by kernel_rfl) (by kernel_rfl) (by kernel_rfl) (⟨_, rfl, fun h => (by first | (exact absurd h (by assumption)) | exact ⟨fun h9 => (by cases h9), fun h9 => (by first | (have := h9.1; have := h9.2.1; have := h9.2.2.1; have := h9.2.2.2.1; omega) | (have := hz_r1.2 h9.2.2.2.2.1; simp_all))⟩), H.below⟩)
              -- H : Ck.blk b1 49 (msgA m)
            · exact run_ret (v := .bool false) (by kernel_rfl) (by kernel_rfl) (by kernel_rfl) (⟨_, rfl, fun h => (by first | (exact absurd h (by assumption)) | exact ⟨fun h9 => (by cases h9), fun h9 => (by first | (have := h9.1; have := h9.2.1; have := h9.2.2.1; have := h9.2.2.2.1; omega) | (have := hz_r1.2 h9.2.2.2.2.1; simp_all))⟩), H.below⟩)
              -- H : Ck.blk b1 49 (msgA m)
          · refine run_lit (.bool false) (by kernel_rfl) (by kernel_rfl) ?_
            exact run_ret (v := .bool false) (by kernel_rfl) (by kernel_rfl) (by kernel_rfl) (⟨_, rfl, fun h => (by first | (exact absurd h (by assumption)) | exact ⟨fun h9 => (by cases h9), fun h9 => (by first | (have := h9.1; have := h9.2.1; have := h9.2.2.1; have := h9.2.2.2.1; omega) | (have := hz_r1.2 h9.2.2.2.2.1; simp_all))⟩), H.below⟩)
            -- H : Ck.blk b1 49 (msgA m)
        · refine run_lit (.bool false) (by kernel_rfl) (by kernel_rfl) ?_
          refine run_lit (.bool false) (by kernel_rfl) (by kernel_rfl) ?_
          exact run_ret (v := .bool false) (by kernel_rfl) (by kernel_rfl) (by kernel_rfl) (⟨_, rfl, fun h => (by first | (exact absurd h (by assumption)) | exact ⟨fun h9 => (by cases h9), fun h9 => (by first | (have := h9.1; have := h9.2.1; have := h9.2.2.1; have := h9.2.2.2.1; omega) | (have := hz_r1.2 h9.2.2.2.2.1; simp_all))⟩), H.below⟩)
          -- H : Ck.blk b1 49 (msgA m)
      · refine run_if (p := m.kind = 2) (by kernel_rfl) (by kernel_rfl) (fun hc => ?_) (fun hc => ?_)
        · refine run_ld (n := 0) (t := 24) (off := 1) (v := .int .u64 m.fr) H rfl (by kernel_rfl) (by kernel_rfl) (by kernel_rfl) ?_
          refine run_ask (m.fr < 32) (by kernel_rfl) (by kernel_rfl) (fun hc => ?_) (fun hc => ?_)
          · refine run_ld (n := 0) (t := 24) (off := 2) (v := .int .u64 m.to) H rfl (by kernel_rfl) (by kernel_rfl) (by kernel_rfl) ?_
            exact run_ret (v := .bool (decide (m.to < 32))) (by kernel_rfl) (by kernel_rfl) (by kernel_rfl) (⟨_, rfl, fun h => absurd h (by assumption), H.below⟩)
            -- H : Ck.blk b1 49 (msgA m)
          · exact run_ret (v := .bool false) (by kernel_rfl) (by kernel_rfl) (by kernel_rfl) (⟨_, rfl, fun h => (by first | (exact absurd h (by assumption)) | exact ⟨fun h9 => (by cases h9), fun h9 => (by first | (have := h9.1; have := h9.2.1; have := h9.2.2.1; have := h9.2.2.2.1; omega) | (have := hz_r1.2 h9.2.2.2.2.1; simp_all))⟩), H.below⟩)
            -- H : Ck.blk b1 49 (msgA m)
        · refine run_if (p := m.kind = 3) (by kernel_rfl) (by kernel_rfl) (fun hc => ?_) (fun hc => ?_)
          · refine run_ld (n := 0) (t := 24) (off := 1) (v := .int .u64 m.fr) H rfl (by kernel_rfl) (by kernel_rfl) (by kernel_rfl) ?_
            refine run_ask (m.fr < 32) (by kernel_rfl) (by kernel_rfl) (fun hc => ?_) (fun hc => ?_)
            · refine run_ld (n := 0) (t := 24) (off := 3) (v := .int .u64 m.am) H rfl (by kernel_rfl) (by kernel_rfl) (by kernel_rfl) ?_
              exact run_ret (v := .bool (decide (m.am > 0))) (by kernel_rfl) (by kernel_rfl) (by kernel_rfl) (⟨_, rfl, fun h => absurd h (by assumption), H.below⟩)
              -- H : Ck.blk b1 49 (msgA m)
            · exact run_ret (v := .bool false) (by kernel_rfl) (by kernel_rfl) (by kernel_rfl) (⟨_, rfl, fun h => (by first | (exact absurd h (by assumption)) | exact ⟨fun h9 => (by cases h9), fun h9 => (by first | (have := h9.1; have := h9.2.1; have := h9.2.2.1; have := h9.2.2.2.1; omega) | (have := hz_r1.2 h9.2.2.2.2.1; simp_all))⟩), H.below⟩)
              -- H : Ck.blk b1 49 (msgA m)
          · exact run_ret (v := .bool false) (by kernel_rfl) (by kernel_rfl) (by kernel_rfl) (⟨_, rfl, fun h => (by first | (exact absurd h (by assumption)) | exact ⟨fun h9 => (by cases h9), fun h9 => (by first | (have := h9.1; have := h9.2.1; have := h9.2.2.1; have := h9.2.2.2.1; omega) | (have := hz_r1.2 h9.2.2.2.2.1; simp_all))⟩), H.below⟩)
            -- H : Ck.blk b1 49 (msgA m)
  · refine run_lit (.bool false) (by kernel_rfl) (by kernel_rfl) ?_
    refine run_ld (n := 0) (t := 45) (off := 0) (v := .int .u8 m.kind) H rfl (by kernel_rfl) (by kernel_rfl) (by kernel_rfl) ?_
    refine run_if (p := m.kind = 1) (by kernel_rfl) (by kernel_rfl) (fun hc => ?_) (fun hc => ?_)
    · refine run_ld (n := 0) (t := 24) (off := 1) (v := .int .u64 m.fr) H rfl (by kernel_rfl) (by kernel_rfl) (by kernel_rfl) ?_
      refine run_ask (m.fr = 0) (by kernel_rfl) (by kernel_rfl) (fun hc => ?_) (fun hc => ?_)
      · refine run_ld (n := 0) (t := 24) (off := 2) (v := .int .u64 m.to) H rfl (by kernel_rfl) (by kernel_rfl) (by kernel_rfl) ?_
        refine run_ask (m.to < 32) (by kernel_rfl) (by kernel_rfl) (fun hc => ?_) (fun hc => ?_)
        · refine run_ld (n := 0) (t := 24) (off := 3) (v := .int .u64 m.am) H rfl (by kernel_rfl) (by kernel_rfl) (by kernel_rfl) ?_
          refine run_ask (m.am > 0) (by kernel_rfl) (by kernel_rfl) (fun hc => ?_) (fun hc => ?_)
          · exact run_ret (v := .bool false) (by kernel_rfl) (by kernel_rfl) (by kernel_rfl) (⟨_, rfl, fun h => (by first | (exact absurd h (by assumption)) | exact ⟨fun h9 => (by cases h9), fun h9 => (by first | (have := h9.1; have := h9.2.1; have := h9.2.2.1; have := h9.2.2.2.1; omega) | (have := hz_r1.2 h9.2.2.2.2.1; simp_all))⟩), H.below⟩)
            -- H : Ck.blk b1 49 (msgA m)
          · exact run_ret (v := .bool false) (by kernel_rfl) (by kernel_rfl) (by kernel_rfl) (⟨_, rfl, fun h => (by first | (exact absurd h (by assumption)) | exact ⟨fun h9 => (by cases h9), fun h9 => (by first | (have := h9.1; have := h9.2.1; have := h9.2.2.1; have := h9.2.2.2.1; omega) | (have := hz_r1.2 h9.2.2.2.2.1; simp_all))⟩), H.below⟩)
            -- H : Ck.blk b1 49 (msgA m)
        · refine run_lit (.bool false) (by kernel_rfl) (by kernel_rfl) ?_
          exact run_ret (v := .bool false) (by kernel_rfl) (by kernel_rfl) (by kernel_rfl) (⟨_, rfl, fun h => (by first | (exact absurd h (by assumption)) | exact ⟨fun h9 => (by cases h9), fun h9 => (by first | (have := h9.1; have := h9.2.1; have := h9.2.2.1; have := h9.2.2.2.1; omega) | (have := hz_r1.2 h9.2.2.2.2.1; simp_all))⟩), H.below⟩)
          -- H : Ck.blk b1 49 (msgA m)
      · refine run_lit (.bool false) (by kernel_rfl) (by kernel_rfl) ?_
        refine run_lit (.bool false) (by kernel_rfl) (by kernel_rfl) ?_
        exact run_ret (v := .bool false) (by kernel_rfl) (by kernel_rfl) (by kernel_rfl) (⟨_, rfl, fun h => (by first | (exact absurd h (by assumption)) | exact ⟨fun h9 => (by cases h9), fun h9 => (by first | (have := h9.1; have := h9.2.1; have := h9.2.2.1; have := h9.2.2.2.1; omega) | (have := hz_r1.2 h9.2.2.2.2.1; simp_all))⟩), H.below⟩)
        -- H : Ck.blk b1 49 (msgA m)
    · refine run_if (p := m.kind = 2) (by kernel_rfl) (by kernel_rfl) (fun hc => ?_) (fun hc => ?_)
      · refine run_ld (n := 0) (t := 24) (off := 1) (v := .int .u64 m.fr) H rfl (by kernel_rfl) (by kernel_rfl) (by kernel_rfl) ?_
        refine run_ask (m.fr < 32) (by kernel_rfl) (by kernel_rfl) (fun hc => ?_) (fun hc => ?_)
        · refine run_ld (n := 0) (t := 24) (off := 2) (v := .int .u64 m.to) H rfl (by kernel_rfl) (by kernel_rfl) (by kernel_rfl) ?_
          exact run_ret (v := .bool (decide (m.to < 32))) (by kernel_rfl) (by kernel_rfl) (by kernel_rfl) (⟨_, rfl, fun h => absurd h (by assumption), H.below⟩)
          -- H : Ck.blk b1 49 (msgA m)
        · exact run_ret (v := .bool false) (by kernel_rfl) (by kernel_rfl) (by kernel_rfl) (⟨_, rfl, fun h => (by first | (exact absurd h (by assumption)) | exact ⟨fun h9 => (by cases h9), fun h9 => (by first | (have := h9.1; have := h9.2.1; have := h9.2.2.1; have := h9.2.2.2.1; omega) | (have := hz_r1.2 h9.2.2.2.2.1; simp_all))⟩), H.below⟩)
          -- H : Ck.blk b1 49 (msgA m)
      · refine run_if (p := m.kind = 3) (by kernel_rfl) (by kernel_rfl) (fun hc => ?_) (fun hc => ?_)
        · refine run_ld (n := 0) (t := 24) (off := 1) (v := .int .u64 m.fr) H rfl (by kernel_rfl) (by kernel_rfl) (by kernel_rfl) ?_
          refine run_ask (m.fr < 32) (by kernel_rfl) (by kernel_rfl) (fun hc => ?_) (fun hc => ?_)
          · refine run_ld (n := 0) (t := 24) (off := 3) (v := .int .u64 m.am) H rfl (by kernel_rfl) (by kernel_rfl) (by kernel_rfl) ?_
            exact run_ret (v := .bool (decide (m.am > 0))) (by kernel_rfl) (by kernel_rfl) (by kernel_rfl) (⟨_, rfl, fun h => absurd h (by assumption), H.below⟩)
            -- H : Ck.blk b1 49 (msgA m)
          · exact run_ret (v := .bool false) (by kernel_rfl) (by kernel_rfl) (by kernel_rfl) (⟨_, rfl, fun h => (by first | (exact absurd h (by assumption)) | exact ⟨fun h9 => (by cases h9), fun h9 => (by first | (have := h9.1; have := h9.2.1; have := h9.2.2.1; have := h9.2.2.2.1; omega) | (have := hz_r1.2 h9.2.2.2.2.1; simp_all))⟩), H.below⟩)
            -- H : Ck.blk b1 49 (msgA m)
        · exact run_ret (v := .bool false) (by kernel_rfl) (by kernel_rfl) (by kernel_rfl) (⟨_, rfl, fun h => (by first | (exact absurd h (by assumption)) | exact ⟨fun h9 => (by cases h9), fun h9 => (by first | (have := h9.1; have := h9.2.1; have := h9.2.2.1; have := h9.2.2.2.1; omega) | (have := hz_r1.2 h9.2.2.2.2.1; simp_all))⟩), H.below⟩)
          -- H : Ck.blk b1 49 (msgA m)

set_option maxHeartbeats 1000000 in
theorem read44_calls {b : Bytes} {v : Value} {w : World} (hx : Sl Ty.u8 w Any b v) :
    Calls Try.prog 44 #[v] w fun e w' => ∃ (m : Msg) (er : Int), e = .returned (.tuple #[.agg (msgA m), .int .i64 er]) ∧ ((er = 0 ∧ m.kind = 1) ↔ Brings b) ∧ Ext w w' := by
  have H := HS.refl w
  refine calls_run Try.func44 (by kernel_rfl) ?_
  refine run_alloc (t := 49) (v := .agg (msgA Msg.zero)) H (by kernel_rfl) (by kernel_rfl) fun b2 wc H => ?_
  refine run_call (f := 83) (args := #[v]) (by kernel_rfl) (by kernel_rfl) pf83 (words83_calls (hx.ext H.below)) fun e wc ⟨ws, er, he, hres, hE⟩ => ⟨_, he, ?_⟩
  replace H := H.ext hE
  refine run_alloc (t := 141) (v := .agg (tab 13 fun _ => .int .u64 0)) H (by kernel_rfl) (by kernel_rfl) fun b4 wc H => ?_
  refine run_st (n := 0) (t := 141) (off := 0) (v := .agg (tab 13 fun j => .int .u64 (ws j))) (cs' := tab 13 fun j => .int .u64 (ws j)) H rfl (by kernel_rfl) (by kernel_rfl) (by kernel_rfl) fun wc H => ?_
  refine run_ifN (p := er = 0) (by kernel_rfl) (by kernel_rfl) (fun hc => ?_) (fun hc => ?_)
  · refine run_st (n := 1) (t := 49) (off := 0) (v := .agg (msgA Msg.zero)) (cs' := msgA Msg.zero) H rfl (by kernel_rfl) (by kernel_rfl) (by kernel_rfl) fun wc H => ?_
    refine run_ret (v := .tuple #[.agg (msgA Msg.zero), .int .i64 er]) (by kernel_rfl) (by kernel_rfl) (resN Try.results44 (vs := [.agg (msgA Msg.zero), .int .i64 er]) (by simp) ⟨rv_cell (H.blk 1 rfl) (by kernel_rfl) (by kernel_rfl), rv_tmp (by kernel_rfl), trivial⟩) ⟨Msg.zero, er, rfl, ⟨fun h => absurd h.1 hc, fun h => ?_⟩, H.below⟩
    rcases hres with h1 | h1 | h1
    · exact absurd h.1 (by omega)
    · exact absurd h.1 (by omega)
    · exact absurd h1.2.1 hc
  have h0 := hc
  clear hc
  obtain ⟨hlen, rfl, rfl⟩ : b.length = 104 ∧ er = 0 ∧ ws = word b := by
    rcases hres with h1 | h1 | h1
    · exact absurd h1.2 (by omega)
    · exact absurd h1.2 (by omega)
    · exact h1
  refine run_drawF H follows (by kernel_rfl) fun wD UD hE H => ?_
  have HD := H
  refine robF_ld (n := 1) (t := 24) (off := 0) (v := .int .u64 (word b 0)) HD rfl (by kernel_rfl) (by kernel_rfl) (by kernel_rfl) (by kernel_rfl) ?_
  refine robF_ld (n := 1) (t := 24) (off := 1) (v := .int .u64 (word b 1)) HD rfl (by kernel_rfl) (by kernel_rfl) (by kernel_rfl) (by kernel_rfl) ?_
  refine robF_ld (n := 1) (t := 24) (off := 2) (v := .int .u64 (word b 2)) HD rfl (by kernel_rfl) (by kernel_rfl) (by kernel_rfl) (by kernel_rfl) ?_
  refine robF_ld (n := 1) (t := 24) (off := 3) (v := .int .u64 (word b 3)) HD rfl (by kernel_rfl) (by kernel_rfl) (by kernel_rfl) (by kernel_rfl) ?_
  refine robF_ld (n := 1) (t := 24) (off := 4) (v := .int .u64 (word b 4)) HD rfl (by kernel_rfl) (by kernel_rfl) (by kernel_rfl) (by kernel_rfl) ?_
  refine robF_ld (n := 1) (t := 24) (off := 5) (v := .int .u64 (word b 5)) HD rfl (by kernel_rfl) (by kernel_rfl) (by kernel_rfl) (by kernel_rfl) ?_
  refine robF_ld (n := 1) (t := 24) (off := 6) (v := .int .u64 (word b 6)) HD rfl (by kernel_rfl) (by kernel_rfl) (by kernel_rfl) (by kernel_rfl) ?_
  refine robF_ld (n := 1) (t := 24) (off := 7) (v := .int .u64 (word b 7)) HD rfl (by kernel_rfl) (by kernel_rfl) (by kernel_rfl) (by kernel_rfl) ?_
  refine robF_ld (n := 1) (t := 24) (off := 8) (v := .int .u64 (word b 8)) HD rfl (by kernel_rfl) (by kernel_rfl) (by kernel_rfl) (by kernel_rfl) ?_
  refine robF_call (f := 84) (args := #[.agg (tab 4 fun j => .int .u64 (word b (5 + j)))]) H (by kernel_rfl) (by kernel_rfl) pf84 fun wG UG hG HG => ⟨_, from84_calls (fun j => word b (5 + j)) wG, fun e wc ⟨he, hE1⟩ => ⟨_, he, hE1, ?_⟩⟩
  replace H := HG.ext hE1
  refine robF_ld (n := 1) (t := 24) (off := 9) (v := .int .u64 (word b 9)) HD rfl (by kernel_rfl) (by kernel_rfl) (by kernel_rfl) (by kernel_rfl) ?_
  refine robF_ld (n := 1) (t := 24) (off := 10) (v := .int .u64 (word b 10)) HD rfl (by kernel_rfl) (by kernel_rfl) (by kernel_rfl) (by kernel_rfl) ?_
  refine robF_ld (n := 1) (t := 24) (off := 11) (v := .int .u64 (word b 11)) HD rfl (by kernel_rfl) (by kernel_rfl) (by kernel_rfl) (by kernel_rfl) ?_
  refine robF_ld (n := 1) (t := 24) (off := 12) (v := .int .u64 (word b 12)) HD rfl (by kernel_rfl) (by kernel_rfl) (by kernel_rfl) (by kernel_rfl) ?_
  refine robF_call (f := 84) (args := #[.agg (tab 4 fun j => .int .u64 (word b (9 + j)))]) H (by kernel_rfl) (by kernel_rfl) pf84 fun wG UG hG HG => ⟨_, from84_calls (fun j => word b (9 + j)) wG, fun e wc ⟨he, hE2⟩ => ⟨_, he, hE2, ?_⟩⟩
  replace H := HG.ext hE2
  refine robF_room (t := 49) (v := .agg (msgA Msg.zero)) H (by kernel_rfl) (by kernel_rfl) fun b6 wc UG wF hG H => ?_
  refine robF_out H (by kernel_rfl) fun H => ?_
  refine rob_st (n := 0) (t := 49) (off := 0) (v := .agg (msgA (msgOf b))) (cs' := msgA (msgOf b)) H rfl (by kernel_rfl) (by kernel_rfl) (by kernel_rfl) (by kernel_rfl) fun wc H => ?_
  refine rob_done (by kernel_rfl) ?_
  refine run_ld (n := 1) (t := 24) (off := 0) (v := .int .u64 (word b 0)) H rfl (by kernel_rfl) (by kernel_rfl) (by kernel_rfl) ?_
  refine run_ask (word b 0 > 3) (by kernel_rfl) (by kernel_rfl) (fun hc => ?_) (fun hc => ?_)
  · refine run_cond (t := true) (by kernel_rfl) (by kernel_rfl) (fun _ => ?_) (fun h => by cases h)
    refine run_st (n := 2) (t := 49) (off := 0) (v := .agg (msgA Msg.zero)) (cs' := msgA Msg.zero) H rfl (by kernel_rfl) (by kernel_rfl) (by kernel_rfl) fun wc H => ?_
    refine run_ret (v := .tuple #[.agg (msgA Msg.zero), .int .i64 8]) (by kernel_rfl) (by kernel_rfl) (resN Try.results44 (vs := [.agg (msgA Msg.zero), .int .i64 8]) (by simp) ⟨rv_cell (H.blk 2 rfl) (by kernel_rfl) (by kernel_rfl), rv_tmp (by kernel_rfl), trivial⟩) ⟨Msg.zero, 8, rfl, ⟨fun h => absurd h.1 (by decide), fun h => ?_⟩, H.below⟩
    have := h.2.1
    omega
  have h3 := hc
  clear hc
  refine run_ld (n := 0) (t := 49) (off := 0) (v := .agg (msgA (msgOf b))) H rfl (by kernel_rfl) (by kernel_rfl) (by kernel_rfl) ?_
  refine run_call (f := 49) (args := #[.agg (msgA (msgOf b))]) (by kernel_rfl) (by kernel_rfl) pf49 (may49_calls (msgOf_ok b) _) fun e wc ⟨r, he, hr, hE3⟩ => ⟨_, he, ?_⟩
  replace H := H.ext hE3
  have hkind : (msgOf b).kind = word b 0 := by
    have := (word_range b 0).1
    show IntKind.u8.wrap (word b 0) = _
    simp [IntKind.wrap, IntKind.signed, IntKind.bits]
    omega
  refine run_cond (t := !r) (by kernel_rfl) (by kernel_rfl) (fun hc => ?_) (fun hc => ?_)
  · refine run_st (n := 2) (t := 49) (off := 0) (v := .agg (msgA Msg.zero)) (cs' := msgA Msg.zero) H rfl (by kernel_rfl) (by kernel_rfl) (by kernel_rfl) fun wc H => ?_
    refine run_ret (v := .tuple #[.agg (msgA Msg.zero), .int .i64 8]) (by kernel_rfl) (by kernel_rfl) (resN Try.results44 (vs := [.agg (msgA Msg.zero), .int .i64 8]) (by simp) ⟨rv_cell (H.blk 2 rfl) (by kernel_rfl) (by kernel_rfl), rv_tmp (by kernel_rfl), trivial⟩) ⟨Msg.zero, 8, rfl, ⟨fun h => absurd h.1 (by decide), fun h => ?_⟩, H.below⟩
    have := (hr (hkind.trans h.2.1)).2 h.2.2
    rw [this] at hc
    cases hc
  · refine run_ld (n := 0) (t := 49) (off := 0) (v := .agg (msgA (msgOf b))) H rfl (by kernel_rfl) (by kernel_rfl) (by kernel_rfl) ?_
    refine run_st (n := 2) (t := 49) (off := 0) (v := .agg (msgA (msgOf b))) (cs' := msgA (msgOf b)) H rfl (by kernel_rfl) (by kernel_rfl) (by kernel_rfl) fun wc H => ?_
    refine run_ret (v := .tuple #[.agg (msgA (msgOf b)), .int .i64 0]) (by kernel_rfl) (by kernel_rfl) (resN Try.results44 (vs := [.agg (msgA (msgOf b)), .int .i64 0]) (by simp) ⟨rv_cell (H.blk 2 rfl) (by kernel_rfl) (by kernel_rfl), rv_tmp (by kernel_rfl), trivial⟩) ⟨msgOf b, 0, rfl, ⟨fun h => ⟨hlen, hkind.symm.trans h.2, (hr h.2).1 (by simpa using hc)⟩, fun h => ⟨rfl, hkind.trans h.2.1⟩⟩, H.below⟩

set_option maxHeartbeats 1000000 in
theorem brings12_calls {b : Bytes} {v : Value} {w : World} (hx : Sl Ty.u8 w Any b v) :
    Calls Try.prog 12 #[v] w fun e w' => e = .returned (.bool (decide (Brings b))) ∧ Ext w w' := by
  have H := HS.refl w
  obtain ⟨Ab, cb, rfl⟩ := hx.form
  refine calls_run Try.func12 (by kernel_rfl) ?_
  refine run_call (f := 44) (args := #[.slice Ab b.length cb]) (by kernel_rfl) (by kernel_rfl) pf44 (read44_calls (hx.ext H.below)) fun e wc ⟨m, er, he, hr, hE⟩ => ⟨_, he, ?_⟩
  replace H := H.ext hE
  refine run_alloc (t := 49) (v := .agg (msgA Msg.zero)) H (by kernel_rfl) (by kernel_rfl) fun b1 wc H => ?_
  refine run_st (n := 0) (t := 49) (off := 0) (v := .agg (msgA m)) (cs' := (msgA m)) H rfl (by kernel_rfl) (by kernel_rfl) (by kernel_rfl) fun wc H => ?_
  refine run_ask (er = 0) (by kernel_rfl) (by kernel_rfl) (fun hc => ?_) (fun hc => ?_)
  · refine run_ld (n := 0) (t := 45) (off := 0) (v := .int .u8 m.kind) H rfl (by kernel_rfl) (by kernel_rfl) (by kernel_rfl) ?_
    have hM : decide (Brings b) = (decide (m.kind = 1)) := by first | exact decide_eq_false (fun h => hc (hr.2 h).1) | exact decide_eq_decide.2 ⟨fun h => (hr.2 h).2, fun h => hr.1 ⟨hc, h⟩⟩
    exact run_ret (v := .bool (decide (m.kind = 1))) (by kernel_rfl) (by kernel_rfl) (by kernel_rfl) (⟨by rw [hM], H.below⟩)
    -- H : Ck.blk b1 49 (msgA m)
  · have hM : decide (Brings b) = false := by first | exact decide_eq_false (fun h => hc (hr.2 h).1) | exact decide_eq_decide.2 ⟨fun h => (hr.2 h).2, fun h => hr.1 ⟨hc, h⟩⟩
    exact run_ret (v := .bool false) (by kernel_rfl) (by kernel_rfl) (by kernel_rfl) (⟨by rw [hM], H.below⟩)
    -- H : Ck.blk b1 49 (msgA m)

end Go.Proofs.Ythmajhdemooecaa
