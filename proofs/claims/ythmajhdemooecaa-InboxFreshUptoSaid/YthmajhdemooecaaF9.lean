/- The walks of an item's reading: need, cut, number, body. -/
import Derived.Test.YthmajhdemooecaaF8
namespace Go.Proofs.Ythmajhdemooecaa
open Go.PM Go.RowKit
set_option linter.unusedVariables false
attribute [local irreducible] adv advD advF fuel

theorem pf98 : plainFn Try.prog 98 = true := by kernel_rfl
theorem pf99 : plainFn Try.prog 99 = true := by kernel_rfl
theorem pf127 : plainFn Try.prog 127 = true := by kernel_rfl
theorem pf118 : plainFn Try.prog 118 = true := by kernel_rfl

/-- How a form is given up. -/
def wrongC (er : Int) : List PanicEntry := [{ v := .iface 153 (.agg #[.int .i64 er]), recovered := false }]
def Out {α : Type} (r : Except Int α) (w : World) (ok : α → Ending → World → Prop) (e : Ending) (w' : World) : Prop :=
  match r with
  | .ok a => ok a e w'
  | .error er => e = .panicked (wrongC er) ∧ Ext w w'

theorem need98_calls (ok : Bool) (er : Int) (w : World) : Calls Try.prog 98 #[.bool ok, .int .i64 er] w fun e w' => Out (if ok = true then .ok () else .error er) w (fun _ e w' => e = .returned (.tuple #[]) ∧ w' = w) e w' := by
  refine calls_run Try.func98 (by kernel_rfl) ?_
  refine run_cond (t := !ok) (by kernel_rfl) (by kernel_rfl) (fun hc => ?_) (fun hc => ?_)
  · have : ok = false := by simpa using hc
    subst this
    refine run_lit (.iface 153 (.agg #[.int .i64 er])) (by kernel_rfl) (by kernel_rfl) ?_
    exact run_panic (v := .iface 153 (.agg #[.int .i64 er])) (by kernel_rfl) (by kernel_rfl) ⟨(by kernel_rfl), rfl, Ext.refl _⟩
  · have : ok = true := by simpa using hc
    subst this
    exact run_ret (v := .tuple #[]) (by kernel_rfl) (by kernel_rfl) (res0 (by kernel_rfl)) ⟨rfl, rfl⟩

/-- A number's bytes, the highest first. -/
def num (b : Bytes) : Int := b.foldl (fun a c => a * 256 + (c.toNat : Int)) 0

def cutP (b : Bytes) (n : Int) : Except Int (Bytes × Bytes) := if n ≤ b.length then .ok (b.take n.toNat, b.drop n.toNat) else .error 7

theorem u64_nat {n : Nat} (h : n < 18446744073709551616) : IntKind.u64.wrap (n : Int) = (n : Int) := u64_of (by omega) (by omega)

set_option maxHeartbeats 1000000 in
theorem cut127_calls {b : Bytes} {v : Value} {w W : World} (hx : Sl Ty.u8 W Any b v) (n : Int) (h0 : 0 ≤ n) :
    Calls Try.prog 127 #[v, .int .u64 n] w fun e w' => Out (cutP b n) w (fun r e w' => ∃ v1 v2, e = .returned (.tuple #[v1, v2]) ∧ Sl Ty.u8 W Any r.1 v1 ∧ Sl Ty.u8 W Any r.2 v2 ∧ Ext w w') e w' := by
  obtain ⟨A, c, rfl⟩ := hx.form
  have hl := hx.len
  have hm : maxLen = 9223372036854775807 := rfl
  have hwr : IntKind.u64.wrap (b.length : Int) = (b.length : Int) := u64_nat (by omega)
  have H := HS.refl w
  refine calls_run Try.func127 (by kernel_rfl) ?_
  refine run_callP (f := 98) (args := #[.bool (decide (n ≤ IntKind.u64.wrap (b.length : Int))), .int .i64 7]) (by kernel_rfl) (by kernel_rfl) pf98 (need98_calls _ 7 w) fun e wc he => ?_
  unfold cutP
  by_cases hn : n ≤ (b.length : Int)
  · rw [hwr, if_pos (decide_eq_true hn)] at he
    obtain ⟨he, hw⟩ := he
    subst hw
    refine .inl ⟨_, he, ?_⟩
    rw [if_pos hn]
    obtain ⟨k, rfl⟩ : ∃ k : Nat, n = (k : Int) := ⟨n.toNat, by omega⟩
    have hk : k ≤ b.length := by omega
    obtain ⟨A1, hA1⟩ : ∃ A1, A1 = if k = 0 then A else A.map (·.add (0 * 1)) := ⟨_, rfl⟩
    obtain ⟨A2, hA2⟩ : ∃ A2, A2 = if b.length = k then A else A.map (·.add (k * 1)) := ⟨_, rfl⟩
    refine run_draw follows (by kernel_rfl) fun wD hE => ?_
    replace H := H.ext hE
    refine rob_pure (.slice A1 k k) (by kernel_rfl) (fun _ => op_slice3' (t := 27) (e := 5) (sz := 1) (n := b.length) (c := c) (A := A) (lo := none) (k := .u64) (k' := .u64) (l := 0) (h := k) (m := k) (ih := (k : Int)) (im := (k : Int)) (by kernel_rfl) (by kernel_rfl) (by kernel_rfl)
      (.inl ⟨rfl, rfl⟩) rfl rfl (by omega) (by omega) (by omega) hA1 (by omega) (by omega)) ?_
    refine rob_pure (.slice A2 (b.length - k) (b.length - k)) (by kernel_rfl) (fun _ => op_slice3' (t := 27) (e := 5) (sz := 1) (n := b.length) (c := c) (A := A) (lo := some (.int .u64 (k : Int))) (k := .i64) (k' := .i64) (l := k) (h := b.length) (m := b.length) (ih := (b.length : Int)) (im := (b.length : Int)) (by kernel_rfl) (by kernel_rfl) (by kernel_rfl)
      (.inr ⟨_, _, rfl, rfl⟩) rfl rfl (by omega) (by omega) (by omega) hA2 (by omega) (by omega)) ?_
    refine rob_done (by kernel_rfl) ?_
    have h1 := hx.cut' (l := 0) (h := k) (m := k) (n' := k) (m' := k) (by omega) (by omega) (by omega) hk hA1 (by omega) (by omega)
    have h2 := hx.cut' (l := k) (h := b.length) (m := b.length) (n' := b.length - k) (m' := b.length - k) (by omega) (by omega) (by omega) (by omega) hA2 (by omega) (by omega)
    rw [List.drop_zero] at h1
    rw [List.take_of_length_le (by rw [List.length_drop]; omega)] at h2
    exact run_ret (v := .tuple #[.slice A1 k k, .slice A2 (b.length - k) (b.length - k)]) (by kernel_rfl) (by kernel_rfl) (resN Try.results127 (vs := [.slice A1 k k, .slice A2 (b.length - k) (b.length - k)]) (by simp) ⟨rv_tmp (by kernel_rfl), rv_tmp (by kernel_rfl), trivial⟩) ⟨_, _, rfl, h1, h2, H.below⟩
  · rw [hwr, if_neg (by simpa using hn)] at he
    obtain ⟨he, hE⟩ := he
    rw [if_neg hn]
    exact .inr ⟨_, he, (by kernel_rfl), rfl, hE⟩

theorem num_take {b : Bytes} {k : Nat} {c : UInt8} (h : b[k]? = some c) : num (b.take (k + 1)) = num (b.take k) * 256 + (c.toNat : Int) := by
  have hlt := (List.getElem?_eq_some_iff.1 h).1
  have e : b.take (k + 1) = b.take k ++ [c] := by
    rw [List.take_succ_eq_append_getElem hlt]
    have := List.getElem?_eq_some_iff.1 h
    rw [this.2]
  rw [e]
  unfold num
  rw [List.foldl_append]
  rfl

theorem num_bound (b : Bytes) : 0 ≤ num b ∧ num b < 256 ^ b.length := by
  have := fold_bound b 0 (Int.le_refl _)
  unfold num
  refine ⟨this.1, by have := this.2; simpa using this⟩

theorem num_small {b : Bytes} (h : b.length ≤ 8) : num b < 18446744073709551616 := by
  have h1 := (num_bound b).2
  have h2 := pow256_le h
  exact Int.lt_of_lt_of_le h1 (by simpa using h2)
theorem num_small7 {b : Bytes} (h : b.length ≤ 7) : num b < 72057594037927936 := by
  have h1 := (num_bound b).2
  have h2 := pow256_le h
  exact Int.lt_of_lt_of_le h1 (by simpa using h2)

set_option maxHeartbeats 1000000 in
theorem number99_calls {b : Bytes} {v : Value} {w : World} (hx : Sl Ty.u8 w Any b v) (h8 : b.length ≤ 8) :
    Calls Try.prog 99 #[v] w fun e w' => e = .returned (.int .u64 (num b)) ∧ w' = w := by
  obtain ⟨A, c, rfl⟩ := hx.form
  refine calls_run Try.func99 (by kernel_rfl) ?_
  refine run_loop (fun m a w' => ∃ k, m = b.length - k ∧ k ≤ b.length ∧ (∃ u, a = env 19 u [(3, .int .u64 (num (b.take k))), (6, .slice A b.length c), (7, .int .i64 (b.length : Int)), (8, .int .i64 (k : Int))]) ∧ w' = w) _ (by kernel_rfl) ⟨0, rfl, Nat.zero_le _, env_intro (by kernel_rfl) (by kernel_rfl) (by kernel_rfl), rfl⟩ ?_
  rintro m a w' ⟨k, rfl, hk, ⟨u, rfl⟩, rfl⟩ next
  refine run_if (p := (k : Int) < (b.length : Int)) (by kernel_rfl) (by kernel_rfl) (fun hc => ?_) (fun hc => ?_)
  · have hlt : k < b.length := by omega
    have hget := List.getElem?_eq_getElem hlt
    generalize b[k] = cc at hget
    obtain ⟨bb, o, cs, rfl, ⟨hcs, -⟩, hcell⟩ := hx.get hget
    subst hcs
    refine run_val (v := .pointer (some ⟨bb, o + k * 1, none⟩)) (by kernel_rfl) (op_indexN (t := 27) (e := 5) (n := b.length) (c := c) (k := .i64) (by kernel_rfl) (by kernel_rfl) (by kernel_rfl) (hlt)) ?_
    refine run_val (v := .int .u8 (cc.toNat : Int)) (by kernel_rfl) (op_load (t := 5) (b := bb) (off := o + k * 1) (by kernel_rfl) (run_loadVar_one (by kernel_rfl) (hcell 0 _ rfl))) ?_
    have hb1 : (b.take k).length ≤ 7 := by rw [List.length_take]; omega
    refine run_at (by kernel_rfl) (next (b.length - (k + 1)) _ _ (by omega) ⟨k + 1, rfl, by omega, ?_, rfl⟩)
    rw [num_take hget, ← bor_byte (num_bound (b.take k)).1 (num_small7 hb1) cc.toNat_lt, ← wrap_succ (by omega)]
    exact env_intro (by kernel_rfl) (by kernel_rfl) (by kernel_rfl)
  · obtain rfl : k = b.length := by omega
    rw [List.take_length]
    exact run_ret (v := .int .u64 (num b)) (by kernel_rfl) (by kernel_rfl) (by kernel_rfl) ⟨rfl, rfl⟩

def bodyP (k : Nat) (b : Bytes) : Except Int (Bytes × Bytes) :=
  if 55 < k then
    match cutP b ((k : Int) - 55) with
    | .error e => .error e
    | .ok (l, r) => if l.head? ≠ some 0 ∧ 55 < num l then cutP r (num l) else .error 8
  else cutP b k

set_option maxHeartbeats 1000000 in
theorem body118_calls {b : Bytes} {v : Value} {w W : World} (hx : Sl Ty.u8 W Any b v) (hW : Ext W w) (f g : Int) (k : Nat) (hk : f - g = (k : Int)) (hk2 : k ≤ 63) :
    Calls Try.prog 118 #[.int .u8 f, .int .u8 g, v] w fun e w' => Out (bodyP k b) w (fun r e w' => ∃ v1 v2, e = .returned (.tuple #[v1, v2]) ∧ Sl Ty.u8 W Any r.1 v1 ∧ Sl Ty.u8 W Any r.2 v2 ∧ Ext w w') e w' := by
  have hX1 : IntKind.u64.wrap (IntKind.u8.wrap (f - g)) = (k : Int) := by
    rw [hk, u8_of (by omega) (by omega), u64_of (by omega) (by omega)]
  have H := HS.refl w
  refine calls_run Try.func118 (by kernel_rfl) ?_
  unfold bodyP
  refine run_if (p := IntKind.u64.wrap (IntKind.u8.wrap (f - g)) > 55) (by kernel_rfl) (by kernel_rfl) (fun hc => ?_) (fun hc => ?_)
  · rw [hX1] at hc
    rw [if_pos (by omega)]
    have hY : IntKind.u64.wrap (IntKind.u64.wrap (IntKind.u8.wrap (f - g)) - 55) = (k : Int) - 55 := by
      rw [hX1, u64_of (by omega) (by omega)]
    refine run_callP (f := 127) (args := #[v, .int .u64 (IntKind.u64.wrap (IntKind.u64.wrap (IntKind.u8.wrap (f - g)) - 55))]) (by kernel_rfl) (by kernel_rfl) pf127 (cut127_calls hx _ (by rw [hY]; omega)) fun e wc he => ?_
    rw [hY] at he
    cases hcut : cutP b ((k : Int) - 55) with
    | error er =>
      rw [hcut] at he
      exact .inr ⟨_, he.1, (by kernel_rfl), rfl, he.2⟩
    | ok r =>
      obtain ⟨l, r⟩ := r
      rw [hcut] at he
      obtain ⟨v1, v2, he, h1, h2, hE⟩ := he
      refine .inl ⟨_, he, ?_⟩
      have hl : l.length = k - 55 := by
        unfold cutP at hcut
        split at hcut
        · injection hcut with hcut
          injection hcut with hcut _
          rw [← hcut, List.length_take]
          omega
        · cases hcut
      simp only
      obtain ⟨A1, c1, rfl⟩ := h1.form
      refine run_call (f := 99) (args := #[.slice A1 l.length c1]) (by kernel_rfl) (by kernel_rfl) pf99 (number99_calls (h1.ext (hW.trans hE)) (show l.length ≤ 8 by omega)) fun e wc ⟨he, hw⟩ => ⟨_, he, ?_⟩
      subst hw
      obtain ⟨c0, hc0⟩ : ∃ c0, l[0]? = some c0 := ⟨_, List.getElem?_eq_getElem (by omega)⟩
      obtain ⟨bb, o, cs, rfl, ⟨hcs, -⟩, hcell⟩ := (h1.ext (hW.trans hE)).get hc0
      subst hcs
      have hhead : l.head? = some c0 := by rw [List.head?_eq_getElem?]; exact hc0
      refine run_val (v := .pointer (some ⟨bb, o + 0 * 1, none⟩)) (by kernel_rfl) (op_indexN (t := 27) (e := 5) (n := l.length) (c := c1) (k := .i64) (by kernel_rfl) (by kernel_rfl) (by kernel_rfl) (by omega)) ?_
      refine run_val (v := .int .u8 (c0.toNat : Int)) (by kernel_rfl) (op_load (t := 5) (b := bb) (off := o + 0 * 1) (by kernel_rfl) (run_loadVar_one (by kernel_rfl) (hcell 0 _ rfl))) ?_
      refine run_lit (.bool (!decide ((c0.toNat : Int) = 0))) (by kernel_rfl) (by kernel_rfl) ?_
      have hz : c0.toNat = 0 ↔ c0 = 0 := ⟨fun h => UInt8.toNat_inj.1 (by simpa using h), fun h => by rw [h]; rfl⟩
      by_cases h0 : (c0.toNat : Int) = 0
      · rw [decide_eq_true h0]
        refine run_callP (f := 98) (args := #[.bool false, .int .i64 8]) (by kernel_rfl) (by kernel_rfl) pf98 (need98_calls _ 8 _) fun e wc he => ?_
        rw [if_neg (by rw [hhead]; exact fun h => h.1 (by rw [hz.1 (by omega)]))]
        rw [if_neg (by simp)] at he
        exact .inr ⟨_, he.1, (by kernel_rfl), rfl, hE.trans he.2⟩
      · rw [decide_eq_false h0]
        refine run_callP (f := 98) (args := #[.bool (decide (num l > 55)), .int .i64 8]) (by kernel_rfl) (by kernel_rfl) pf98 (need98_calls _ 8 _) fun e wc he => ?_
        by_cases hn : num l > 55
        · rw [if_pos (decide_eq_true hn)] at he
          obtain ⟨he, hw⟩ := he
          subst hw
          refine .inl ⟨_, he, ?_⟩
          rw [if_pos ⟨by rw [hhead]; intro h; injection h with h; exact h0 (by rw [hz.2 h]; rfl), hn⟩]
          refine run_callP (f := 127) (args := #[v2, .int .u64 (num l)]) (by kernel_rfl) (by kernel_rfl) pf127 (cut127_calls h2 _ (num_bound l).1) fun e wc he => ?_
          cases hcut2 : cutP r (num l) with
          | error er =>
            rw [hcut2] at he
            exact .inr ⟨_, he.1, (by kernel_rfl), rfl, hE.trans he.2⟩
          | ok r2 =>
            rw [hcut2] at he
            obtain ⟨v3, v4, he, h3, h4, hE2⟩ := he
            refine .inl ⟨_, he, ?_⟩
            exact run_ret (v := .tuple #[v3, v4]) (by kernel_rfl) (by kernel_rfl) (resN Try.results118 (vs := [v3, v4]) (by simp) ⟨rv_tmp (by kernel_rfl), rv_tmp (by kernel_rfl), trivial⟩) ⟨_, _, rfl, h3, h4, hE.trans hE2⟩
        · rw [if_neg (by simpa using hn)] at he
          rw [if_neg (fun h => hn h.2)]
          exact .inr ⟨_, he.1, (by kernel_rfl), rfl, hE.trans he.2⟩
  · rw [hX1] at hc
    rw [if_neg (by omega)]
    refine run_callP (f := 127) (args := #[v, .int .u64 (IntKind.u64.wrap (IntKind.u8.wrap (f - g)))]) (by kernel_rfl) (by kernel_rfl) pf127 (cut127_calls hx _ (by rw [hX1]; omega)) fun e wc he => ?_
    rw [hX1] at he
    cases hcut2 : cutP b (k : Int) with
    | error er =>
      rw [hcut2] at he
      exact .inr ⟨_, he.1, (by kernel_rfl), rfl, he.2⟩
    | ok r2 =>
      rw [hcut2] at he
      obtain ⟨v3, v4, he, h3, h4, hE2⟩ := he
      refine .inl ⟨_, he, ?_⟩
      exact run_ret (v := .tuple #[v3, v4]) (by kernel_rfl) (by kernel_rfl) (resN Try.results118 (vs := [v3, v4]) (by simp) ⟨rv_tmp (by kernel_rfl), rv_tmp (by kernel_rfl), trivial⟩) ⟨_, _, rfl, h3, h4, hE2⟩
end Go.Proofs.Ythmajhdemooecaa
