/- The walks of a message's reading, and of what is a deposit. -/
import Derived.Test.YthmajhdemooecaaF5
import Derived.Test.YthmajhdemooecaaX9
namespace Go.Proofs.Ythmajhdemooecaa
open Go.PM Go.RowKit
set_option linter.unusedVariables false
attribute [local irreducible] adv advD fuel

theorem pf41 : plainFn Try.prog 41 = true := by kernel_rfl

/-- The message that a hundred and four bytes are. -/
def msgOf (b : Bytes) : Msg := ⟨IntKind.u8.wrap (word b 0), word b 1, word b 2, word b 3, word b 4, fun i => hb (fun j => word b (5 + j)) i, fun i => hb (fun j => word b (9 + j)) i⟩
/-- Bytes that are read as a deposit. -/
def Brings (b : Bytes) : Prop := b.length = 104 ∧ word b 0 = 1 ∧ (msgOf b).dep
instance (m : Msg) : Decidable m.dep := by unfold Msg.dep; exact inferInstance
instance (b : Bytes) : Decidable (Brings b) := by unfold Brings; exact inferInstance

theorem wf_u8_wrap (x : Int) : (Lit.int .u8 (IntKind.u8.wrap x)).wf = true := by
  simp [Lit.wf, IntKind.wrap, IntKind.min, IntKind.max, IntKind.signed, IntKind.bits]
  omega
theorem wf_u64 {x : Int} (h : 0 ≤ x) (h' : x < 2 ^ 64) : (Lit.int .u64 x).wf = true := by
  simp [Lit.wf, IntKind.min, IntKind.max, IntKind.signed, IntKind.bits]
  omega

theorem word_range (b : Bytes) (j : Nat) : 0 ≤ word b j ∧ word b j < 2 ^ 64 := wd_bound b 104 j

theorem msgOf_ok (b : Bytes) : (msgOf b).ok :=
  ⟨wf_u8_wrap _, wf_u64 (word_range b 1).1 (word_range b 1).2, wf_u64 (word_range b 2).1 (word_range b 2).2, wf_u64 (word_range b 3).1 (word_range b 3).2, wf_u64 (word_range b 4).1 (word_range b 4).2, fun i => wf_u8_wrap _, fun i => wf_u8_wrap _⟩

set_option maxHeartbeats 1000000 in
theorem read77_calls {b : Bytes} {v : Value} {w : World} (hx : Sl Ty.u8 w Any b v) :
    Calls Try.prog 77 #[v] w fun e w' => ∃ (m : Msg) (er : Int), e = .returned (.tuple #[.agg (msgA m), .int .i64 er]) ∧ ((er = 0 ∧ m.kind = 1) ↔ Brings b) ∧ Ext w w' := by
  have H := HS.refl w
  refine calls_run Try.func77 (by kernel_rfl) ?_
  refine run_alloc (t := 49) (v := .agg (msgA Msg.zero)) H (by kernel_rfl) (by kernel_rfl) fun b2 wc H => ?_
  refine run_call (f := 109) (args := #[v]) (by kernel_rfl) (by kernel_rfl) pf109 (words109_calls (hx.ext H.below)) fun e wc ⟨ws, er, he, hres, hE⟩ => ⟨_, he, ?_⟩
  replace H := H.ext hE
  refine run_alloc (t := 141) (v := .agg (tab 13 fun _ => .int .u64 0)) H (by kernel_rfl) (by kernel_rfl) fun b4 wc H => ?_
  refine run_st (n := 0) (t := 141) (off := 0) (v := .agg (tab 13 fun j => .int .u64 (ws j))) (cs' := tab 13 fun j => .int .u64 (ws j)) H rfl (by kernel_rfl) (by kernel_rfl) (by kernel_rfl) fun wc H => ?_
  refine run_ifN (p := er = 0) (by kernel_rfl) (by kernel_rfl) (fun hc => ?_) (fun hc => ?_)
  · refine run_st (n := 1) (t := 49) (off := 0) (v := .agg (msgA Msg.zero)) (cs' := msgA Msg.zero) H rfl (by kernel_rfl) (by kernel_rfl) (by kernel_rfl) fun wc H => ?_
    refine run_ret (v := .tuple #[.agg (msgA Msg.zero), .int .i64 er]) (by kernel_rfl) (by kernel_rfl) (resN Try.results77 (vs := [.agg (msgA Msg.zero), .int .i64 er]) (by simp) ⟨rv_cell (H.blk 1 rfl) (by kernel_rfl) (by kernel_rfl), rv_tmp (by kernel_rfl), trivial⟩) ⟨Msg.zero, er, rfl, ⟨fun h => absurd h.1 hc, fun h => ?_⟩, H.below⟩
    rcases hres with h1 | h1 | h1
    · exact absurd h.1 (by omega)
    · exact absurd h.1 (by omega)
    · exact absurd h1.2.1 hc
  have h0 := hc
  clear hc
  obtain ⟨hlen, rfl, rfl⟩ : b.length = 104 ∧ er = 0 ∧ ws = word b := by
    rcases hres with h1 | h1 | h1
    · exact absurd h1.2 (by omega)
    · exact absurd h1.2 (by omega)
    · exact h1
  refine run_ld (n := 0) (t := 24) (off := 0) (v := .int .u64 (word b 0)) H rfl (by kernel_rfl) (by kernel_rfl) (by kernel_rfl) ?_
  refine run_if (p := word b 0 > 3) (by kernel_rfl) (by kernel_rfl) (fun hc => ?_) (fun hc => ?_)
  · refine run_st (n := 1) (t := 49) (off := 0) (v := .agg (msgA Msg.zero)) (cs' := msgA Msg.zero) H rfl (by kernel_rfl) (by kernel_rfl) (by kernel_rfl) fun wc H => ?_
    refine run_ret (v := .tuple #[.agg (msgA Msg.zero), .int .i64 8]) (by kernel_rfl) (by kernel_rfl) (resN Try.results77 (vs := [.agg (msgA Msg.zero), .int .i64 8]) (by simp) ⟨rv_cell (H.blk 1 rfl) (by kernel_rfl) (by kernel_rfl), rv_tmp (by kernel_rfl), trivial⟩) ⟨Msg.zero, 8, rfl, ⟨fun h => absurd h.1 (by decide), fun h => ?_⟩, H.below⟩
    have := h.2.1
    omega
  have h3 := hc
  clear hc
  refine run_drawF H follows (by kernel_rfl) fun wD UD hE H => ?_
  have HD := H
  refine robF_ld (n := 1) (t := 24) (off := 0) (v := .int .u64 (word b 0)) HD rfl (by kernel_rfl) (by kernel_rfl) (by kernel_rfl) (by kernel_rfl) ?_
  refine robF_ld (n := 1) (t := 24) (off := 1) (v := .int .u64 (word b 1)) HD rfl (by kernel_rfl) (by kernel_rfl) (by kernel_rfl) (by kernel_rfl) ?_
  refine robF_ld (n := 1) (t := 24) (off := 2) (v := .int .u64 (word b 2)) HD rfl (by kernel_rfl) (by kernel_rfl) (by kernel_rfl) (by kernel_rfl) ?_
  refine robF_ld (n := 1) (t := 24) (off := 3) (v := .int .u64 (word b 3)) HD rfl (by kernel_rfl) (by kernel_rfl) (by kernel_rfl) (by kernel_rfl) ?_
  refine robF_ld (n := 1) (t := 24) (off := 4) (v := .int .u64 (word b 4)) HD rfl (by kernel_rfl) (by kernel_rfl) (by kernel_rfl) (by kernel_rfl) ?_
  refine robF_ld (n := 1) (t := 145) (off := 5) (v := .agg (tab 4 fun j => .int .u64 (word b (5 + j)))) HD rfl (by kernel_rfl) (by kernel_rfl) (by kernel_rfl) (by kernel_rfl) ?_
  refine robF_call (f := 110) (args := #[.agg (tab 4 fun j => .int .u64 (word b (5 + j)))]) H (by kernel_rfl) (by kernel_rfl) pf110 fun wG UG hG HG => ⟨_, from110_calls (fun j => word b (5 + j)) wG, fun e wc ⟨he, hE1⟩ => ⟨_, he, hE1, ?_⟩⟩
  replace H := HG.ext hE1
  refine robF_ld (n := 1) (t := 145) (off := 9) (v := .agg (tab 4 fun j => .int .u64 (word b (9 + j)))) HD rfl (by kernel_rfl) (by kernel_rfl) (by kernel_rfl) (by kernel_rfl) ?_
  refine robF_call (f := 110) (args := #[.agg (tab 4 fun j => .int .u64 (word b (9 + j)))]) H (by kernel_rfl) (by kernel_rfl) pf110 fun wG UG hG HG => ⟨_, from110_calls (fun j => word b (9 + j)) wG, fun e wc ⟨he, hE2⟩ => ⟨_, he, hE2, ?_⟩⟩
  replace H := HG.ext hE2
  refine robF_room (t := 49) (v := .agg (msgA Msg.zero)) H (by kernel_rfl) (by kernel_rfl) fun b6 wc UG wF hG H => ?_
  refine robF_out H (by kernel_rfl) fun H => ?_
  refine rob_st (n := 0) (t := 49) (off := 0) (v := .agg (msgA (msgOf b))) (cs' := msgA (msgOf b)) H rfl (by kernel_rfl) (by kernel_rfl) (by kernel_rfl) (by kernel_rfl) fun wc H => ?_
  refine rob_done (by kernel_rfl) ?_
  refine run_ld (n := 0) (t := 49) (off := 0) (v := .agg (msgA (msgOf b))) H rfl (by kernel_rfl) (by kernel_rfl) (by kernel_rfl) ?_
  refine run_call (f := 88) (args := #[.agg (msgA (msgOf b))]) (by kernel_rfl) (by kernel_rfl) pf88 (may88_calls (msgOf_ok b) _) fun e wc ⟨r, he, hr, hE3⟩ => ⟨_, he, ?_⟩
  replace H := H.ext hE3
  have hkind : (msgOf b).kind = word b 0 := by
    have := (word_range b 0).1
    show IntKind.u8.wrap (word b 0) = _
    simp [IntKind.wrap, IntKind.signed, IntKind.bits]
    omega
  refine run_cond (t := !r) (by kernel_rfl) (by kernel_rfl) (fun hc => ?_) (fun hc => ?_)
  · refine run_st (n := 2) (t := 49) (off := 0) (v := .agg (msgA Msg.zero)) (cs' := msgA Msg.zero) H rfl (by kernel_rfl) (by kernel_rfl) (by kernel_rfl) fun wc H => ?_
    refine run_ret (v := .tuple #[.agg (msgA Msg.zero), .int .i64 8]) (by kernel_rfl) (by kernel_rfl) (resN Try.results77 (vs := [.agg (msgA Msg.zero), .int .i64 8]) (by simp) ⟨rv_cell (H.blk 2 rfl) (by kernel_rfl) (by kernel_rfl), rv_tmp (by kernel_rfl), trivial⟩) ⟨Msg.zero, 8, rfl, ⟨fun h => absurd h.1 (by decide), fun h => ?_⟩, H.below⟩
    have := (hr (hkind.trans h.2.1)).2 h.2.2
    rw [this] at hc
    cases hc
  · refine run_ld (n := 0) (t := 49) (off := 0) (v := .agg (msgA (msgOf b))) H rfl (by kernel_rfl) (by kernel_rfl) (by kernel_rfl) ?_
    refine run_st (n := 2) (t := 49) (off := 0) (v := .agg (msgA (msgOf b))) (cs' := msgA (msgOf b)) H rfl (by kernel_rfl) (by kernel_rfl) (by kernel_rfl) fun wc H => ?_
    refine run_ret (v := .tuple #[.agg (msgA (msgOf b)), .int .i64 0]) (by kernel_rfl) (by kernel_rfl) (resN Try.results77 (vs := [.agg (msgA (msgOf b)), .int .i64 0]) (by simp) ⟨rv_cell (H.blk 2 rfl) (by kernel_rfl) (by kernel_rfl), rv_tmp (by kernel_rfl), trivial⟩) ⟨msgOf b, 0, rfl, ⟨fun h => ⟨hlen, hkind.symm.trans h.2, (hr h.2).1 (by simpa using hc)⟩, fun h => ⟨rfl, hkind.trans h.2.1⟩⟩, H.below⟩

set_option maxHeartbeats 1000000 in
theorem deposit41_calls {b : Bytes} {v : Value} {w : World} (hx : Sl Ty.u8 w Any b v) :
    Calls Try.prog 41 #[v] w fun e w' => e = .returned (.bool (decide (Brings b))) ∧ Ext w w' := by
  have H := HS.refl w
  refine calls_run Try.func41 (by kernel_rfl) ?_
  refine run_call (f := 77) (args := #[v]) (by kernel_rfl) (by kernel_rfl) pf77 (read77_calls (hx.ext H.below)) fun e wc ⟨m, er, he, hr, hE⟩ => ⟨_, he, ?_⟩
  replace H := H.ext hE
  refine run_alloc (t := 49) (v := .agg (msgA Msg.zero)) H (by kernel_rfl) (by kernel_rfl) fun b3 wc H => ?_
  refine run_st (n := 0) (t := 49) (off := 0) (v := .agg (msgA m)) (cs' := msgA m) H rfl (by kernel_rfl) (by kernel_rfl) (by kernel_rfl) fun wc H => ?_
  refine run_ask (er = 0) (by kernel_rfl) (by kernel_rfl) (fun hc => ?_) (fun hc => ?_)
  · refine run_ld (n := 0) (t := 45) (off := 0) (v := .int .u8 m.kind) H rfl (by kernel_rfl) (by kernel_rfl) (by kernel_rfl) ?_
    have e : decide (m.kind = 1) = decide (Brings b) := decide_eq_decide.2 ⟨fun h => hr.1 ⟨hc, h⟩, fun h => (hr.2 h).2⟩
    exact run_ret (v := .bool (decide (m.kind = 1))) (by kernel_rfl) (by kernel_rfl) (by kernel_rfl) (⟨by rw [e], H.below⟩)
  · have e : false = decide (Brings b) := (decide_eq_false fun h => hc (hr.2 h).1).symm
    exact run_ret (v := .bool false) (by kernel_rfl) (by kernel_rfl) (by kernel_rfl) (⟨by rw [e], H.below⟩)
end Go.Proofs.Ythmajhdemooecaa
