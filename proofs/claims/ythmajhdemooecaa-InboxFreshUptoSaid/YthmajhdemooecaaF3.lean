/- The walks of what an inbox may be. -/
import Derived.Test.YthmajhdemooecaaF2
namespace Go.Proofs.Ythmajhdemooecaa
open Go.PM Go.RowKit
set_option linter.unusedVariables false
attribute [local irreducible] adv advD fuel

def okQ : Int → List Delayed → Bool
  | _, [] => true
  | last, d :: r => !decide (d.block < last) && decide (d.msg.length ≤ 65536) && okQ d.block r
def Inbox.may (x : Inbox) : Bool :=
  decide (x.queue.length ≤ 4096) && decide (x.list.length ≤ 4096) && decide (0 ≤ x.taken) && decide (x.taken ≤ x.queue.length) && okQ 0 x.queue && x.list.all fun m => decide (m.length ≤ 65536)

theorem pf33 : plainFn Try.prog 33 = true := by kernel_rfl
theorem pf40 : plainFn Try.prog 40 = true := by kernel_rfl
theorem pf70 : plainFn Try.prog 70 = true := by kernel_rfl
theorem pf71 : plainFn Try.prog 71 = true := by kernel_rfl
theorem pf101 : plainFn Try.prog 101 = true := by kernel_rfl

theorem may1_calls (A : Option Addr) (n c : Nat) (w : World) : Calls Try.prog 71 #[.slice A n c] w fun e w' => e = .returned (.bool (!decide ((n : Int) ≤ 65536))) ∧ w' = w := by
  refine calls_run Try.func71 (by kernel_rfl) ?_
  refine run_call (f := 40) (args := #[.slice A n c]) (by kernel_rfl) (by kernel_rfl) pf40 (short_calls A n c _) fun e wc ⟨he, hw⟩ => ⟨_, he, ?_⟩
  subst hw
  exact run_ret (v := .bool (!decide ((n : Int) ≤ 65536))) (by kernel_rfl) (by kernel_rfl) (by kernel_rfl) (⟨rfl, rfl⟩)

theorem idx101_calls {xs : List Bytes} {v : Value} {w : World} (hx : Sl bytesT w Any xs v) (hn : small xs.length) :
    Calls Try.prog 101 #[v, .func (.func 71) #[] #[]] w fun e w' => ∃ r : Int, e = .returned (.int .i64 r) ∧ (0 ≤ r ↔ ∃ m ∈ xs, 65536 < m.length) ∧ w' = w := by
  obtain ⟨A, c, rfl⟩ := hx.form
  refine calls_run Try.func101 (by kernel_rfl) ?_
  refine run_loop (fun m a w' => ∃ i, m = xs.length - i ∧ i ≤ xs.length ∧ (∃ u, a = env 19 u [(0, .slice A xs.length c), (1, .func (.func 71) #[] #[]), (7, .int .i64 (xs.length : Int)), (8, .int .i64 (i : Int))]) ∧ w' = w ∧ ∀ m ∈ xs.take i, m.length ≤ 65536) _ (by kernel_rfl) ⟨0, rfl, Nat.zero_le _, env_intro (by kernel_rfl) (by kernel_rfl) (by kernel_rfl), rfl, by simp⟩ ?_
  rintro m a w' ⟨i, rfl, hi, ⟨u, rfl⟩, rfl, hbig⟩ next
  refine run_if (p := (i : Int) < (xs.length : Int)) (by kernel_rfl) (by kernel_rfl) (fun hc => ?_) (fun hc => ?_)
  · have hlt : i < xs.length := by omega
    have hget := List.getElem?_eq_getElem hlt
    generalize hd : xs[i] = d at hget
    obtain ⟨b, o, cs, rfl, hK, hcell⟩ := hx.get hget
    obtain ⟨vm, rfl, hm⟩ := bytesT_open hK
    obtain ⟨Am, cm, rfl⟩ := hm.form
    refine run_val (v := .pointer (some ⟨b, o + i * 1, none⟩)) (by kernel_rfl) (op_indexN (t := 23) (e := 27) (n := xs.length) (c := c) (k := .i64) (by kernel_rfl) (by kernel_rfl) (by kernel_rfl) (hlt)) ?_
    refine run_val (v := .slice Am d.length cm) (by kernel_rfl) (op_load (t := 27) (b := b) (off := o + i * 1) (by kernel_rfl) (run_loadVar_one (by kernel_rfl) (by have := hcell 0 _ rfl; rwa [Nat.add_zero] at this))) ?_
    refine run_call (f := 71) (args := #[.slice Am d.length cm]) (by kernel_rfl) (by kernel_rfl) pf71 (may1_calls Am d.length cm _) fun e wc ⟨he, hw⟩ => ⟨_, he, ?_⟩
    subst hw
    by_cases hs : (d.length : Int) ≤ 65536
    · rw [decide_eq_true hs]
      refine run_cond (t := false) (by kernel_rfl) (by kernel_rfl) (fun h => by cases h) (fun _ => ?_)
      refine run_at (by kernel_rfl) (next (xs.length - (i + 1)) _ _ (by omega) ⟨i + 1, rfl, by omega, ?_, rfl, ?_⟩)
      · rw [← wrap_succ (by unfold small at hn; omega)]
        exact env_intro (by kernel_rfl) (by kernel_rfl) (by kernel_rfl)
      · intro m hm
        rw [List.take_succ_eq_append_getElem hlt, List.mem_append, List.mem_singleton] at hm
        rcases hm with hm | hm
        · exact hbig m hm
        · rw [hm, hd]; omega
    · rw [decide_eq_false hs]
      refine run_cond (t := true) (by kernel_rfl) (by kernel_rfl) (fun _ => ?_) (fun h => by cases h)
      exact run_ret (v := .int .i64 (i : Int)) (by kernel_rfl) (by kernel_rfl) (by kernel_rfl) (⟨(i : Int), rfl, ⟨fun _ => ⟨d, List.mem_of_getElem? hget, by omega⟩, fun _ => by omega⟩, rfl⟩)
  · obtain rfl : i = xs.length := by omega
    rw [List.take_length] at hbig
    exact run_ret (v := .int .i64 (-1)) (by kernel_rfl) (by kernel_rfl) (by kernel_rfl) (⟨-1, rfl, ⟨fun h => by omega, fun ⟨m, h1, h2⟩ => by have := hbig m h1; omega⟩, rfl⟩)

theorem cont70_calls {xs : List Bytes} {v : Value} {w : World} (hx : Sl bytesT w Any xs v) (hn : small xs.length) :
    Calls Try.prog 70 #[v, .func (.func 71) #[] #[]] w fun e w' => e = .returned (.bool (!xs.all fun m => decide (m.length ≤ 65536))) ∧ w' = w := by
  refine calls_run Try.func70 (by kernel_rfl) ?_
  refine run_call (f := 101) (args := #[v, .func (.func 71) #[] #[]]) (by kernel_rfl) (by kernel_rfl) pf101 (idx101_calls hx hn) fun e wc ⟨r, he, hr, hw⟩ => ⟨_, he, ?_⟩
  subst hw
  have hval : decide (r ≥ 0) = (!xs.all fun m => decide (m.length ≤ 65536)) := by
    rw [Bool.eq_iff_iff]
    simp [hr]
  exact run_ret (v := .bool (decide (r ≥ 0))) (by kernel_rfl) (by kernel_rfl) (by kernel_rfl) (⟨by rw [hval], rfl⟩)

set_option maxHeartbeats 1000000 in
theorem may33_calls {x : Inbox} {vq vl : Value} {w : World} (hq : Sl delT w Any x.queue vq) (hl : Sl bytesT w Any x.list vl) (nq : small x.queue.length) (nl : small x.list.length) :
    Calls Try.prog 33 #[.agg #[vq, .int .i64 x.taken, vl, .int .u64 x.next]] w fun e w' => e = .returned (.bool x.may) ∧ Ext w w' := by
  obtain ⟨Aq, cq, rfl⟩ := hq.form
  obtain ⟨Al, cl, rfl⟩ := hl.form
  have H := HS.refl w
  refine calls_run Try.func33 (by kernel_rfl) ?_
  refine run_box (t := 26) (v := .agg #[.slice Aq x.queue.length cq, .int .i64 x.taken, .slice Al x.list.length cl, .int .u64 x.next]) H (by kernel_rfl) (by kernel_rfl) fun b1 wc H => ?_
  refine run_ld (n := 0) (t := 22) (off := 0) (v := .slice Aq x.queue.length cq) H rfl (by kernel_rfl) (by kernel_rfl) (by kernel_rfl) ?_
  refine run_ask ((x.queue.length : Int) > 4096) (by kernel_rfl) (by kernel_rfl) (fun hc => ?_) (fun hc => ?_)
  · refine run_lit (.bool true) (by kernel_rfl) (by kernel_rfl) ?_
    refine run_lit (.bool true) (by kernel_rfl) (by kernel_rfl) ?_
    refine run_cond (t := true) (by kernel_rfl) (by kernel_rfl) (fun _ => ?_) (fun h => by cases h)
    have hm : x.may = false := by
      unfold Inbox.may; simp; omega
    exact run_ret (v := .bool false) (by kernel_rfl) (by kernel_rfl) (by kernel_rfl) (⟨by rw [hm], H.below⟩)
  have h1 := hc
  clear hc
  refine run_ld (n := 0) (t := 23) (off := 2) (v := .slice Al x.list.length cl) H rfl (by kernel_rfl) (by kernel_rfl) (by kernel_rfl) ?_
  refine run_ask ((x.list.length : Int) > 4096) (by kernel_rfl) (by kernel_rfl) (fun hc => ?_) (fun hc => ?_)
  · refine run_lit (.bool true) (by kernel_rfl) (by kernel_rfl) ?_
    refine run_cond (t := true) (by kernel_rfl) (by kernel_rfl) (fun _ => ?_) (fun h => by cases h)
    have hm : x.may = false := by
      unfold Inbox.may; simp; omega
    exact run_ret (v := .bool false) (by kernel_rfl) (by kernel_rfl) (by kernel_rfl) (⟨by rw [hm], H.below⟩)
  have h2 := hc
  clear hc
  refine run_ld (n := 0) (t := 3) (off := 1) (v := .int .i64 x.taken) H rfl (by kernel_rfl) (by kernel_rfl) (by kernel_rfl) ?_
  refine run_ask (x.taken < 0) (by kernel_rfl) (by kernel_rfl) (fun hc => ?_) (fun hc => ?_)
  · refine run_cond (t := true) (by kernel_rfl) (by kernel_rfl) (fun _ => ?_) (fun h => by cases h)
    have hm : x.may = false := by
      unfold Inbox.may; simp; omega
    exact run_ret (v := .bool false) (by kernel_rfl) (by kernel_rfl) (by kernel_rfl) (⟨by rw [hm], H.below⟩)
  have h3 := hc
  clear hc
  refine run_ld (n := 0) (t := 3) (off := 1) (v := .int .i64 x.taken) H rfl (by kernel_rfl) (by kernel_rfl) (by kernel_rfl) ?_
  refine run_ld (n := 0) (t := 22) (off := 0) (v := .slice Aq x.queue.length cq) H rfl (by kernel_rfl) (by kernel_rfl) (by kernel_rfl) ?_
  refine run_if (p := x.taken > (x.queue.length : Int)) (by kernel_rfl) (by kernel_rfl) (fun hc => ?_) (fun hc => ?_)
  · have hm : x.may = false := by
      unfold Inbox.may; simp; omega
    exact run_ret (v := .bool false) (by kernel_rfl) (by kernel_rfl) (by kernel_rfl) (⟨by rw [hm], H.below⟩)
  have h4 := hc
  clear hc
  have hmay : x.may = (okQ 0 x.queue && x.list.all fun m => decide (m.length ≤ 65536)) := by
    unfold Inbox.may
    rw [decide_eq_true (by omega), decide_eq_true (by omega), decide_eq_true (by omega), decide_eq_true (by omega)]
    simp
  refine run_ld (n := 0) (t := 22) (off := 0) (v := .slice Aq x.queue.length cq) H rfl (by kernel_rfl) (by kernel_rfl) (by kernel_rfl) ?_
  refine run_loop (fun m a w' => ∃ i last, m = x.queue.length - i ∧ i ≤ x.queue.length ∧ (∃ u, a = env 53 u [(1, .pointer (some ⟨b1, 0, none⟩)), (3, .int .i64 last), (30, .slice Aq x.queue.length cq), (31, .int .i64 (x.queue.length : Int)), (32, .int .i64 (i : Int))]) ∧
    HS w w' [Ck.blk b1 26 #[.slice Aq x.queue.length cq, .int .i64 x.taken, .slice Al x.list.length cl, .int .u64 x.next]] ∧ okQ 0 x.queue = okQ last (x.queue.drop i)) _ (by kernel_rfl) ⟨0, 0, rfl, Nat.zero_le _, env_intro (by kernel_rfl) (by kernel_rfl) (by kernel_rfl), H, rfl⟩ ?_
  clear H
  rintro m a w' ⟨i, last, rfl, hi, ⟨u, rfl⟩, H, hok⟩ next
  refine run_if (p := (i : Int) < (x.queue.length : Int)) (by kernel_rfl) (by kernel_rfl) (fun hc => ?_) (fun hc => ?_)
  · have hlt : i < x.queue.length := by omega
    have hget := List.getElem?_eq_getElem hlt
    have hdrop := List.drop_eq_getElem_cons hlt
    generalize x.queue[i] = d at hget hdrop
    rw [hdrop] at hok
    obtain ⟨b, o, cs, rfl, hK, hcell⟩ := (hq.ext H.below).get hget
    obtain ⟨vm, rfl, hwr, hm⟩ := delT_open hK
    obtain ⟨Am, cm, rfl⟩ := hm.form
    refine run_val (v := .pointer (some ⟨b, o + i * 2, none⟩)) (by kernel_rfl) (op_indexN (t := 22) (e := 31) (n := x.queue.length) (c := cq) (k := .i64) (by kernel_rfl) (by kernel_rfl) (by kernel_rfl) (hlt)) ?_
    refine run_val (v := .agg #[.int .i64 d.block, .slice Am d.msg.length cm]) (by kernel_rfl) (op_load (t := 31) (b := b) (off := o + i * 2) (by kernel_rfl) (run_loadVar_agg (cs := [.int .i64 d.block, .slice Am d.msg.length cm]) (by kernel_rfl) (by kernel_rfl) hcell)) ?_
    refine run_alloc (t := 31) (v := .agg #[.int .i64 0, .slice none 0 0]) H (by kernel_rfl) (by kernel_rfl) fun b5 wc H => ?_
    refine run_st (n := 0) (t := 31) (off := 0) (v := .agg #[.int .i64 d.block, .slice Am d.msg.length cm]) (cs' := #[.int .i64 d.block, .slice Am d.msg.length cm]) H rfl (by kernel_rfl) (by kernel_rfl) (by kernel_rfl) fun wc H => ?_
    refine run_ld (n := 0) (t := 3) (off := 0) (v := .int .i64 d.block) H rfl (by kernel_rfl) (by kernel_rfl) (by kernel_rfl) ?_
    refine run_ask (d.block < last) (by kernel_rfl) (by kernel_rfl) (fun hc => ?_) (fun hc => ?_)
    · refine run_cond (t := true) (by kernel_rfl) (by kernel_rfl) (fun _ => ?_) (fun h => by cases h)
      have hm : x.may = false := by
        rw [hmay, hok]; simp [okQ, hc]
      exact run_ret (v := .bool false) (by kernel_rfl) (by kernel_rfl) (by kernel_rfl) (⟨by rw [hm], H.below⟩)
    have h5 := hc
    clear hc
    refine run_ld (n := 0) (t := 27) (off := 1) (v := .slice Am d.msg.length cm) H rfl (by kernel_rfl) (by kernel_rfl) (by kernel_rfl) ?_
    refine run_call (f := 40) (args := #[.slice Am d.msg.length cm]) (by kernel_rfl) (by kernel_rfl) pf40 (short_calls Am d.msg.length cm _) fun e wc ⟨he, hw⟩ => ⟨_, he, ?_⟩
    subst hw
    by_cases hs : (d.msg.length : Int) ≤ 65536
    · rw [decide_eq_true hs]
      refine run_cond (t := false) (by kernel_rfl) (by kernel_rfl) (fun h => by cases h) (fun _ => ?_)
      refine run_ld (n := 0) (t := 3) (off := 0) (v := .int .i64 d.block) H rfl (by kernel_rfl) (by kernel_rfl) (by kernel_rfl) ?_
      refine run_at (by kernel_rfl) (next (x.queue.length - (i + 1)) _ _ (by omega) ⟨i + 1, d.block, rfl, by omega, ?_, (H.pick 1 rfl).swap.drop, ?_⟩)
      · rw [← wrap_succ (by unfold small at nq; omega)]
        exact env_intro (by kernel_rfl) (by kernel_rfl) (by kernel_rfl)
      · rw [hok, okQ, decide_eq_false h5, decide_eq_true (by omega)]; rfl
    · rw [decide_eq_false hs]
      refine run_cond (t := true) (by kernel_rfl) (by kernel_rfl) (fun _ => ?_) (fun h => by cases h)
      have hm : x.may = false := by
        rw [hmay, hok, okQ, decide_eq_false (p := d.msg.length ≤ 65536) (by omega)]; simp
      exact run_ret (v := .bool false) (by kernel_rfl) (by kernel_rfl) (by kernel_rfl) (⟨by rw [hm], H.below⟩)
  · obtain rfl : i = x.queue.length := by omega
    rw [List.drop_length] at hok
    refine run_ld (n := 0) (t := 23) (off := 2) (v := .slice Al x.list.length cl) H rfl (by kernel_rfl) (by kernel_rfl) (by kernel_rfl) ?_
    refine run_call (f := 70) (args := #[.slice Al x.list.length cl, .func (.func 71) #[] #[]]) (by kernel_rfl) (by kernel_rfl) pf70 (cont70_calls (hl.ext H.below) nl) fun e wc ⟨he, hw⟩ => ⟨_, he, ?_⟩
    subst hw
    exact run_ret (v := .bool (!(!x.list.all fun m => decide (m.length ≤ 65536)))) (by kernel_rfl) (by kernel_rfl) (by kernel_rfl) (⟨by rw [hmay, hok, Bool.not_not]; rfl, H.below⟩)
end Go.Proofs.Ythmajhdemooecaa
