/- The walks of what waits: since, queue, Enqueue. -/
import Derived.Test.YthmajhdemooecaaF6
namespace Go.Proofs.Ythmajhdemooecaa
open Go.PM Go.RowKit
set_option linter.unusedVariables false
attribute [local irreducible] adv advD advF fuel

theorem pf39 : plainFn Try.prog 39 = true := by kernel_rfl
theorem pf42 : plainFn Try.prog 42 = true := by kernel_rfl
theorem pf45 : plainFn Try.prog 45 = true := by kernel_rfl
theorem pf10 : plainFn Try.prog 10 = true := by kernel_rfl

/-- The block since which the last one waits. -/
def lastB (q : List Delayed) : Int := (q.getLast?.map (·.block)).getD 0
def Inbox.since (x : Inbox) (block : Int) : Bool := x.may && decide (0 ≤ block) && (decide (x.queue.length = 0) || decide (lastB x.queue ≤ block))
def Inbox.zero : Inbox := ⟨[], 0, [], 0⟩

/-- What is handed in as an inbox. -/
structure InArg (w : World) (x : Inbox) (vq vl : Value) : Prop where
  q : Sl delT w Any x.queue vq
  l : Sl bytesT w Any x.list vl
  nq : small x.queue.length
  nl : small x.list.length
  mq : ∀ d ∈ x.queue, small d.msg.length
  ml : ∀ m ∈ x.list, small m.length
theorem InArg.ext {w w' : World} {x : Inbox} {vq vl : Value} (h : InArg w x vq vl) (hE : Ext w w') : InArg w' x vq vl := ⟨h.q.ext hE, h.l.ext hE, h.nq, h.nl, h.mq, h.ml⟩

/-- An inbox in memory of its own, and an error. -/
def RetIn (w : World) (e : Ending) (w' : World) (y : Inbox) (er : Int) : Prop :=
  ∃ vq vl, e = .returned (.tuple #[.agg #[vq, .int .i64 y.taken, vl, .int .u64 y.next], .int .i64 er]) ∧ HS w w' [Ck.own bytesT 27 vl y.list, Ck.own delT 31 vq y.queue]

theorem last_get {q : List Delayed} (h : q.length ≠ 0) : ∃ d, q[q.length - 1]? = some d ∧ lastB q = d.block := by
  have hlt : q.length - 1 < q.length := by omega
  refine ⟨q[q.length - 1], List.getElem?_eq_getElem hlt, ?_⟩
  unfold lastB
  rw [List.getLast?_eq_getElem?, List.getElem?_eq_getElem hlt]
  rfl

set_option maxHeartbeats 1000000 in
theorem since39_calls {x : Inbox} {vq vl : Value} {w : World} (hx : InArg w x vq vl) (block : Int) :
    Calls Try.prog 39 #[.agg #[vq, .int .i64 x.taken, vl, .int .u64 x.next], .int .i64 block] w fun e w' => e = .returned (.bool (x.since block)) ∧ Ext w w' := by
  obtain ⟨Aq, cq, rfl⟩ := hx.q.form
  obtain ⟨Al, cl, rfl⟩ := hx.l.form
  have H := HS.refl w
  have hs : small x.queue.length := hx.nq
  unfold small at hs
  refine calls_run Try.func39 (by kernel_rfl) ?_
  refine run_box (t := 26) (v := .agg #[.slice Aq x.queue.length cq, .int .i64 x.taken, .slice Al x.list.length cl, .int .u64 x.next]) H (by kernel_rfl) (by kernel_rfl) fun b1 wc H => ?_
  refine run_ld (n := 0) (t := 26) (off := 0) (v := .agg #[.slice Aq x.queue.length cq, .int .i64 x.taken, .slice Al x.list.length cl, .int .u64 x.next]) H rfl (by kernel_rfl) (by kernel_rfl) (by kernel_rfl) ?_
  refine run_call (f := 33) (args := #[.agg #[.slice Aq x.queue.length cq, .int .i64 x.taken, .slice Al x.list.length cl, .int .u64 x.next]]) (by kernel_rfl) (by kernel_rfl) pf33 (may33_calls (hx.ext H.below).q (hx.ext H.below).l hx.nq hx.nl) fun e wc ⟨he, hE⟩ => ⟨_, he, ?_⟩
  replace H := H.ext hE
  cases hm : x.may
  · refine run_lit (.bool false) (by kernel_rfl) (by kernel_rfl) ?_
    refine run_lit (.bool false) (by kernel_rfl) (by kernel_rfl) ?_
    exact run_ret (v := .bool false) (by kernel_rfl) (by kernel_rfl) (by kernel_rfl) (⟨by unfold Inbox.since; rw [hm]; rfl, H.below⟩)
  refine run_lit (.bool true) (by kernel_rfl) (by kernel_rfl) ?_
  refine run_ask (block ≥ 0) (by kernel_rfl) (by kernel_rfl) (fun hc => ?_) (fun hc => ?_)
  · have h1 := hc
    clear hc
    refine run_ld (n := 0) (t := 22) (off := 0) (v := .slice Aq x.queue.length cq) H rfl (by kernel_rfl) (by kernel_rfl) (by kernel_rfl) ?_
    refine run_ask ((x.queue.length : Int) = 0) (by kernel_rfl) (by kernel_rfl) (fun hc => ?_) (fun hc => ?_)
    · exact run_ret (v := .bool true) (by kernel_rfl) (by kernel_rfl) (by kernel_rfl) (⟨by unfold Inbox.since; rw [hm, decide_eq_true (show 0 ≤ block from h1), decide_eq_true (show x.queue.length = 0 by omega)]; rfl, H.below⟩)
    · refine run_ld (n := 0) (t := 22) (off := 0) (v := .slice Aq x.queue.length cq) H rfl (by kernel_rfl) (by kernel_rfl) (by kernel_rfl) ?_
      refine run_ld (n := 0) (t := 22) (off := 0) (v := .slice Aq x.queue.length cq) H rfl (by kernel_rfl) (by kernel_rfl) (by kernel_rfl) ?_
      obtain ⟨d, hget, hlast⟩ := last_get (q := x.queue) (by omega)
      obtain ⟨b, o, cs, rfl, hK, hcell⟩ := (hx.q.ext H.below).get hget
      obtain ⟨vm, rfl, hwr, hmm⟩ := delT_open hK
      refine run_val (v := .pointer (some ⟨b, o + (x.queue.length - 1) * 2, none⟩)) (by kernel_rfl) (op_indexS (t := 22) (e := 31) (n := x.queue.length) (c := cq) (k := .i64) (i := IntKind.i64.wrap ((x.queue.length : Int) - 1)) (by kernel_rfl) (by kernel_rfl) (by kernel_rfl) (by rw [i64_of (by omega) (by omega)]; omega) (by omega)) ?_
      refine run_val (v := .int .i64 d.block) (by kernel_rfl) (op_load (t := 3) (b := b) (off := o + (x.queue.length - 1) * 2) (by kernel_rfl) (run_loadVar_one (by kernel_rfl) (hcell 0 _ rfl))) ?_
      have e : decide (block ≥ d.block) = x.since block := by
        unfold Inbox.since
        rw [hm, decide_eq_true (show 0 ≤ block from h1), decide_eq_false (show ¬ x.queue.length = 0 by omega), hlast]
        rfl
      exact run_ret (v := .bool (decide (block ≥ d.block))) (by kernel_rfl) (by kernel_rfl) (by kernel_rfl) (⟨by rw [e], H.below⟩)
  · exact run_ret (v := .bool false) (by kernel_rfl) (by kernel_rfl) (by kernel_rfl) (⟨by unfold Inbox.since; rw [hm, decide_eq_false (show ¬ 0 ≤ block from hc)]; rfl, H.below⟩)

def Inbox.put (x : Inbox) (block : Int) (m : Bytes) : Inbox × Int :=
  if 4096 ≤ x.queue.length then (.zero, 4) else (⟨x.queue ++ [⟨block, m⟩], x.taken, x.list, x.next⟩, 0)

set_option maxHeartbeats 1000000 in
theorem queue42_calls {x : Inbox} {vq vl vm : Value} {w : World} (hx : InArg w x vq vl) {block : Int} (hb : IntKind.i64.wrap block = block) {m : Bytes} (hm : Sl Ty.u8 w Any m vm) (nm : small m.length) :
    Calls Try.prog 42 #[.agg #[vq, .int .i64 x.taken, vl, .int .u64 x.next], .int .i64 block, vm] w fun e w' => RetIn w e w' (x.put block m).1 (x.put block m).2 := by
  obtain ⟨Aq, cq, rfl⟩ := hx.q.form
  obtain ⟨Al, cl, rfl⟩ := hx.l.form
  have H := HS.refl w
  have hs : small x.queue.length := hx.nq
  unfold small at hs
  refine calls_run Try.func42 (by kernel_rfl) ?_
  refine run_box (t := 26) (v := .agg #[.slice Aq x.queue.length cq, .int .i64 x.taken, .slice Al x.list.length cl, .int .u64 x.next]) H (by kernel_rfl) (by kernel_rfl) fun b3 wc H => ?_
  refine run_alloc (t := 26) (v := .agg #[.slice none 0 0, .int .i64 0, .slice none 0 0, .int .u64 0]) H (by kernel_rfl) (by kernel_rfl) fun b6 wc H => ?_
  refine run_ld (n := 1) (t := 22) (off := 0) (v := .slice Aq x.queue.length cq) H rfl (by kernel_rfl) (by kernel_rfl) (by kernel_rfl) ?_
  refine run_if (p := (x.queue.length : Int) ≥ 4096) (by kernel_rfl) (by kernel_rfl) (fun hc => ?_) (fun hc => ?_)
  · refine run_st (n := 0) (t := 26) (off := 0) (v := .agg #[.slice none 0 0, .int .i64 0, .slice none 0 0, .int .u64 0]) (cs' := #[.slice none 0 0, .int .i64 0, .slice none 0 0, .int .u64 0]) H rfl (by kernel_rfl) (by kernel_rfl) (by kernel_rfl) fun wc H => ?_
    have hp : x.put block m = (.zero, 4) := by unfold Inbox.put; rw [if_pos (by omega)]
    rw [hp]
    exact run_ret (v := .tuple #[.agg #[.slice none 0 0, .int .i64 0, .slice none 0 0, .int .u64 0], .int .i64 4]) (by kernel_rfl) (by kernel_rfl) (resN Try.results42 (vs := [.agg #[.slice none 0 0, .int .i64 0, .slice none 0 0, .int .u64 0], .int .i64 4]) (by simp) ⟨rv_cell (H.blk 0 rfl) (by kernel_rfl) (by kernel_rfl), rv_tmp (by kernel_rfl), trivial⟩) ⟨_, _, rfl, ((H.take 0).nil delT 31).nil bytesT 27⟩
  have h1 := hc
  clear hc
  have hp : x.put block m = (⟨x.queue ++ [⟨block, m⟩], x.taken, x.list, x.next⟩, 0) := by unfold Inbox.put; rw [if_neg (by omega)]
  rw [hp]
  refine run_ld (n := 1) (t := 26) (off := 0) (v := .agg #[.slice Aq x.queue.length cq, .int .i64 x.taken, .slice Al x.list.length cl, .int .u64 x.next]) H rfl (by kernel_rfl) (by kernel_rfl) (by kernel_rfl) ?_
  have hx1 := hx.ext H.below
  refine run_call (f := 45) (args := #[.agg #[.slice Aq x.queue.length cq, .int .i64 x.taken, .slice Al x.list.length cl, .int .u64 x.next]]) (by kernel_rfl) (by kernel_rfl) pf45 (copied_calls hx1.q hx1.l hx1.nq hx1.nl hx1.mq hx1.ml) fun e wc ⟨vq', vl', he, hH⟩ => ⟨_, he, ?_⟩
  replace H := H.join hH
  clear hH hx1
  obtain ⟨Al', cl', rfl⟩ := (H.sl 0 rfl).form
  obtain ⟨Aq', cq', rfl⟩ := (H.sl 1 rfl).form
  refine run_st (n := 3) (t := 26) (off := 0) (v := .agg #[.slice Aq' x.queue.length cq', .int .i64 x.taken, .slice Al' x.list.length cl', .int .u64 x.next]) (cs' := #[.slice Aq' x.queue.length cq', .int .i64 x.taken, .slice Al' x.list.length cl', .int .u64 x.next]) H rfl (by kernel_rfl) (by kernel_rfl) (by kernel_rfl) fun wc H => ?_
  refine run_draw follows (by kernel_rfl) fun wD hE => ?_
  replace H := H.ext hE
  refine rob_ld (n := 3) (t := 22) (off := 0) (v := .slice Aq' x.queue.length cq') H rfl (by kernel_rfl) (by kernel_rfl) (by kernel_rfl) (by kernel_rfl) ?_
  refine rob_call (f := 82) (args := #[vm]) (by kernel_rfl) (by kernel_rfl) pf82 (bytesClone_calls (hm.ext H.below) nm) fun e wc ⟨vm', he, hH⟩ => ⟨_, he, .inr (hH.below), ?_⟩
  replace H := H.join hH
  clear hH
  obtain ⟨Am', cm', rfl⟩ := (H.sl 0 rfl).form
  refine rob_bs (e := 31) (len := 1) (cells := #[.int .i64 block, .slice Am' m.length cm']) H (by kernel_rfl) (by kernel_rfl) fun bb wc H => ?_
  have hbb := H.blk 0 rfl
  have H : HS w wc [Ck.own delT 31 (.slice Aq' x.queue.length cq') x.queue, Ck.dat delT [.int .i64 block, .slice Am' m.length cm'] ⟨block, m⟩, Ck.blk bb 31 #[.int .i64 block, .slice Am' m.length cm'], Ck.own bytesT 27 (.slice Al' x.list.length cl') x.list, Ck.blk b6 26 #[.slice none 0 0, .int .i64 0, .slice none 0 0, .int .u64 0], Ck.blk b3 26 #[.slice Aq' x.queue.length cq', .int .i64 x.taken, .slice Al' x.list.length cl', .int .u64 x.next]] :=
    ((H.pick 1 rfl).map (c' := Ck.dat delT [.int .i64 block, .slice Am' m.length cm'] ⟨block, m⟩) fun S hS => delT_mk (x := ⟨block, m⟩) hb hS).pick 3 rfl
  obtain ⟨vq2, w2, hr, H⟩ := H.app_own (cap := 1) row22 hbb (by omega)
  obtain ⟨Aq2, cq2, rfl⟩ := (H.sl 0 rfl).form
  refine rob_barv (by kernel_rfl) (by kernel_rfl) (op_append (s := .slice Aq' x.queue.length cq') (by kernel_rfl) hr) ?_
  refine rob_st (n := 4) (t := 22) (off := 0) (v := .slice Aq2 (x.queue ++ [Delayed.mk block m]).length cq2) (cs' := #[.slice Aq2 (x.queue ++ [Delayed.mk block m]).length cq2, .int .i64 x.taken, .slice Al' x.list.length cl', .int .u64 x.next]) H rfl (by kernel_rfl) (by kernel_rfl) (by kernel_rfl) (by kernel_rfl) fun wc H => ?_
  refine rob_done (by kernel_rfl) ?_
  refine run_ld (n := 4) (t := 26) (off := 0) (v := .agg #[.slice Aq2 (x.queue ++ [Delayed.mk block m]).length cq2, .int .i64 x.taken, .slice Al' x.list.length cl', .int .u64 x.next]) H rfl (by kernel_rfl) (by kernel_rfl) (by kernel_rfl) ?_
  refine run_st (n := 3) (t := 26) (off := 0) (v := .agg #[.slice Aq2 (x.queue ++ [Delayed.mk block m]).length cq2, .int .i64 x.taken, .slice Al' x.list.length cl', .int .u64 x.next]) (cs' := #[.slice Aq2 (x.queue ++ [Delayed.mk block m]).length cq2, .int .i64 x.taken, .slice Al' x.list.length cl', .int .u64 x.next]) H rfl (by kernel_rfl) (by kernel_rfl) (by kernel_rfl) fun wc H => ?_
  exact run_ret (v := .tuple #[.agg #[.slice Aq2 (x.queue ++ [Delayed.mk block m]).length cq2, .int .i64 x.taken, .slice Al' x.list.length cl', .int .u64 x.next], .int .i64 0]) (by kernel_rfl) (by kernel_rfl) (resN Try.results42 (vs := [.agg #[.slice Aq2 (x.queue ++ [Delayed.mk block m]).length cq2, .int .i64 x.taken, .slice Al' x.list.length cl', .int .u64 x.next], .int .i64 0]) (by simp) ⟨rv_cell (H.blk 3 rfl) (by kernel_rfl) (by kernel_rfl), rv_tmp (by kernel_rfl), trivial⟩) ⟨_, _, rfl, (H.pick 2 rfl).take 2⟩

def Inbox.enq (x : Inbox) (block : Int) (m : Bytes) : Inbox × Int :=
  if x.since block = true ∧ m.length ≤ 65536 ∧ ¬ Brings m then x.put block m else (.zero, 2)

set_option maxHeartbeats 1000000 in
theorem enq10_calls {x : Inbox} {vq vl vm : Value} {w : World} (hx : InArg w x vq vl) {block : Int} (hb : IntKind.i64.wrap block = block) {m : Bytes} (hm : Sl Ty.u8 w Any m vm) (nm : small m.length) :
    Calls Try.prog 10 #[.agg #[vq, .int .i64 x.taken, vl, .int .u64 x.next], .int .i64 block, vm] w fun e w' => RetIn w e w' (x.enq block m).1 (x.enq block m).2 := by
  obtain ⟨Aq, cq, rfl⟩ := hx.q.form
  obtain ⟨Al, cl, rfl⟩ := hx.l.form
  obtain ⟨Am, cm, rfl⟩ := hm.form
  have H := HS.refl w
  refine calls_run Try.func10 (by kernel_rfl) ?_
  refine run_box (t := 26) (v := .agg #[.slice Aq x.queue.length cq, .int .i64 x.taken, .slice Al x.list.length cl, .int .u64 x.next]) H (by kernel_rfl) (by kernel_rfl) fun b3 wc H => ?_
  refine run_alloc (t := 26) (v := .agg #[.slice none 0 0, .int .i64 0, .slice none 0 0, .int .u64 0]) H (by kernel_rfl) (by kernel_rfl) fun b6 wc H => ?_
  refine run_ld (n := 1) (t := 26) (off := 0) (v := .agg #[.slice Aq x.queue.length cq, .int .i64 x.taken, .slice Al x.list.length cl, .int .u64 x.next]) H rfl (by kernel_rfl) (by kernel_rfl) (by kernel_rfl) ?_
  refine run_call (f := 39) (args := #[.agg #[.slice Aq x.queue.length cq, .int .i64 x.taken, .slice Al x.list.length cl, .int .u64 x.next], .int .i64 block]) (by kernel_rfl) (by kernel_rfl) pf39 (since39_calls (hx.ext H.below) block) fun e wc ⟨he, hE⟩ => ⟨_, he, ?_⟩
  replace H := H.ext hE
  have bad : ∀ {w' : World}, (¬ (x.since block = true ∧ m.length ≤ 65536 ∧ ¬ Brings m)) → HS w w' [Ck.blk b6 26 #[.slice none 0 0, .int .i64 0, .slice none 0 0, .int .u64 0], Ck.blk b3 26 #[.slice Aq x.queue.length cq, .int .i64 x.taken, .slice Al x.list.length cl, .int .u64 x.next]] →
      RetIn w (.returned (.tuple #[.agg #[.slice none 0 0, .int .i64 0, .slice none 0 0, .int .u64 0], .int .i64 2])) w' (x.enq block m).1 (x.enq block m).2 := by
    intro w' hn H
    have he : x.enq block m = (.zero, 2) := by unfold Inbox.enq; rw [if_neg hn]
    rw [he]
    exact ⟨_, _, rfl, ((H.take 0).nil delT 31).nil bytesT 27⟩
  cases hsi : x.since block
  · refine run_lit (.bool true) (by kernel_rfl) (by kernel_rfl) ?_
    refine run_lit (.bool true) (by kernel_rfl) (by kernel_rfl) ?_
    refine run_cond (t := true) (by kernel_rfl) (by kernel_rfl) (fun _ => ?_) (fun h => by cases h)
    refine run_st (n := 0) (t := 26) (off := 0) (v := .agg #[.slice none 0 0, .int .i64 0, .slice none 0 0, .int .u64 0]) (cs' := #[.slice none 0 0, .int .i64 0, .slice none 0 0, .int .u64 0]) H rfl (by kernel_rfl) (by kernel_rfl) (by kernel_rfl) fun wc H => ?_
    exact run_ret (v := .tuple #[.agg #[.slice none 0 0, .int .i64 0, .slice none 0 0, .int .u64 0], .int .i64 2]) (by kernel_rfl) (by kernel_rfl) (resN Try.results10 (vs := [.agg #[.slice none 0 0, .int .i64 0, .slice none 0 0, .int .u64 0], .int .i64 2]) (by simp) ⟨rv_cell (H.blk 0 rfl) (by kernel_rfl) (by kernel_rfl), rv_tmp (by kernel_rfl), trivial⟩) (bad (by rw [hsi]; simp) H)
  refine run_lit (.bool false) (by kernel_rfl) (by kernel_rfl) ?_
  refine run_call (f := 40) (args := #[.slice Am m.length cm]) (by kernel_rfl) (by kernel_rfl) pf40 (short_calls Am m.length cm _) fun e wc ⟨he, hw⟩ => ⟨_, he, ?_⟩
  subst hw
  by_cases h1 : (m.length : Int) ≤ 65536
  case neg =>
    rw [decide_eq_false h1]
    refine run_lit (.bool true) (by kernel_rfl) (by kernel_rfl) ?_
    refine run_cond (t := true) (by kernel_rfl) (by kernel_rfl) (fun _ => ?_) (fun h => by cases h)
    refine run_st (n := 0) (t := 26) (off := 0) (v := .agg #[.slice none 0 0, .int .i64 0, .slice none 0 0, .int .u64 0]) (cs' := #[.slice none 0 0, .int .i64 0, .slice none 0 0, .int .u64 0]) H rfl (by kernel_rfl) (by kernel_rfl) (by kernel_rfl) fun wc H => ?_
    exact run_ret (v := .tuple #[.agg #[.slice none 0 0, .int .i64 0, .slice none 0 0, .int .u64 0], .int .i64 2]) (by kernel_rfl) (by kernel_rfl) (resN Try.results10 (vs := [.agg #[.slice none 0 0, .int .i64 0, .slice none 0 0, .int .u64 0], .int .i64 2]) (by simp) ⟨rv_cell (H.blk 0 rfl) (by kernel_rfl) (by kernel_rfl), rv_tmp (by kernel_rfl), trivial⟩) (bad (fun h => h1 (by have := h.2.1; omega)) H)
  rw [decide_eq_true h1]
  refine run_lit (.bool false) (by kernel_rfl) (by kernel_rfl) ?_
  refine run_call (f := 41) (args := #[.slice Am m.length cm]) (by kernel_rfl) (by kernel_rfl) pf41 (deposit41_calls (hm.ext H.below)) fun e wc ⟨he, hE⟩ => ⟨_, he, ?_⟩
  replace H := H.ext hE
  refine run_if (p := Brings m) (by kernel_rfl) (by kernel_rfl) (fun hc => ?_) (fun hc => ?_)
  · refine run_st (n := 0) (t := 26) (off := 0) (v := .agg #[.slice none 0 0, .int .i64 0, .slice none 0 0, .int .u64 0]) (cs' := #[.slice none 0 0, .int .i64 0, .slice none 0 0, .int .u64 0]) H rfl (by kernel_rfl) (by kernel_rfl) (by kernel_rfl) fun wc H => ?_
    exact run_ret (v := .tuple #[.agg #[.slice none 0 0, .int .i64 0, .slice none 0 0, .int .u64 0], .int .i64 2]) (by kernel_rfl) (by kernel_rfl) (resN Try.results10 (vs := [.agg #[.slice none 0 0, .int .i64 0, .slice none 0 0, .int .u64 0], .int .i64 2]) (by simp) ⟨rv_cell (H.blk 0 rfl) (by kernel_rfl) (by kernel_rfl), rv_tmp (by kernel_rfl), trivial⟩) (bad (fun h => h.2.2 hc) H)
  have hen : x.enq block m = x.put block m := by unfold Inbox.enq; rw [if_pos ⟨hsi, by omega, hc⟩]
  rw [hen]
  refine run_ld (n := 1) (t := 26) (off := 0) (v := .agg #[.slice Aq x.queue.length cq, .int .i64 x.taken, .slice Al x.list.length cl, .int .u64 x.next]) H rfl (by kernel_rfl) (by kernel_rfl) (by kernel_rfl) ?_
  refine run_call (f := 42) (args := #[.agg #[.slice Aq x.queue.length cq, .int .i64 x.taken, .slice Al x.list.length cl, .int .u64 x.next], .int .i64 block, .slice Am m.length cm]) (by kernel_rfl) (by kernel_rfl) pf42 (queue42_calls (hx.ext H.below) hb (hm.ext H.below) nm) fun e wc ⟨vq', vl', he, hH⟩ => ⟨_, he, ?_⟩
  replace H := H.join hH
  clear hH
  obtain ⟨Al', cl', rfl⟩ := (H.sl 0 rfl).form
  obtain ⟨Aq', cq', rfl⟩ := (H.sl 1 rfl).form
  refine run_st (n := 2) (t := 26) (off := 0) (v := .agg #[.slice Aq' (x.put block m).1.queue.length cq', .int .i64 (x.put block m).1.taken, .slice Al' (x.put block m).1.list.length cl', .int .u64 (x.put block m).1.next]) (cs' := #[.slice Aq' (x.put block m).1.queue.length cq', .int .i64 (x.put block m).1.taken, .slice Al' (x.put block m).1.list.length cl', .int .u64 (x.put block m).1.next]) H rfl (by kernel_rfl) (by kernel_rfl) (by kernel_rfl) fun wc H => ?_
  exact run_ret (v := .tuple #[.agg #[.slice Aq' (x.put block m).1.queue.length cq', .int .i64 (x.put block m).1.taken, .slice Al' (x.put block m).1.list.length cl', .int .u64 (x.put block m).1.next], .int .i64 (x.put block m).2]) (by kernel_rfl) (by kernel_rfl) (resN Try.results10 (vs := [.agg #[.slice Aq' (x.put block m).1.queue.length cq', .int .i64 (x.put block m).1.taken, .slice Al' (x.put block m).1.list.length cl', .int .u64 (x.put block m).1.next], .int .i64 (x.put block m).2]) (by simp) ⟨rv_cell (H.blk 2 rfl) (by kernel_rfl) (by kernel_rfl), rv_tmp (by kernel_rfl), trivial⟩) ⟨_, _, rfl, H.take 2⟩
end Go.Proofs.Ythmajhdemooecaa
