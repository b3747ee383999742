/- The walks of an inbox's copy. -/
import Derived.Test.YthmajhdemooecaaXH
import Derived.Test.YthmajhdemooecaaF1
namespace Go.Proofs.Ythmajhdemooecaa
open Go.PM Go.RowKit
set_option linter.unusedVariables false
attribute [local irreducible] adv advD fuel

abbrev Bytes := List UInt8
structure Delayed where
  block : Int
  msg : Bytes
structure Inbox where
  queue : List Delayed
  taken : Int
  list : List Bytes
  next : Int
def bytesT : Ty Bytes := Ty.bytes 5
def delT : Ty Delayed := Ty.iso (Ty.pair (Ty.int .i64) bytesT) (fun d => (d.block, d.msg))

theorem delT_open {w : World} {S : Nat → Prop} {x : Delayed} {c : List Value} (h : delT.K w S x c) : ∃ v, c = [.int .i64 x.block, v] ∧ IntKind.i64.wrap x.block = x.block ∧ Sl Ty.u8 w S x.msg v := by
  obtain ⟨c1, c2, rfl, ⟨rfl, h1⟩, ⟨v, rfl, h2, -⟩⟩ := h
  exact ⟨v, rfl, h1, h2⟩
theorem bytesT_open {w : World} {S : Nat → Prop} {x : Bytes} {c : List Value} (h : bytesT.K w S x c) : ∃ v, c = [v] ∧ Sl Ty.u8 w S x v := let ⟨v, h1, h2, _⟩ := h; ⟨v, h1, h2⟩
theorem bytesT_mk {w : World} {S : Nat → Prop} {x : Bytes} {v : Value} (h : (Ck.own Ty.u8 5 v x).h w S) : bytesT.K w S x [v] := ⟨v, rfl, own_sl h, .inr (Rm.own h)⟩
theorem bytesT_any {w : World} {x : Bytes} {v : Value} (h : Sl Ty.u8 w Any x v) (hz : 0 < w.heap.size) : bytesT.K w Any x [v] := ⟨v, rfl, h, .inl ⟨trivial, hz⟩⟩
theorem delT_any {w : World} {x : Delayed} {v : Value} (h1 : IntKind.i64.wrap x.block = x.block) (h2 : Sl Ty.u8 w Any x.msg v) (hz : 0 < w.heap.size) : delT.K w Any x [.int .i64 x.block, v] :=
  ⟨[.int .i64 x.block], [v], rfl, ⟨rfl, h1⟩, bytesT_any h2 hz⟩
theorem delT_mk {w : World} {S : Nat → Prop} {x : Delayed} {v : Value} (h1 : IntKind.i64.wrap x.block = x.block) (h2 : (Ck.own Ty.u8 5 v x.msg).h w S) : delT.K w S x [.int .i64 x.block, v] :=
  ⟨[.int .i64 x.block], [v], rfl, ⟨rfl, h1⟩, bytesT_mk h2⟩

theorem pf82 : plainFn Try.prog 82 = true := by kernel_rfl
theorem pf85 : plainFn Try.prog 85 = true := by kernel_rfl
theorem pf86 : plainFn Try.prog 86 = true := by kernel_rfl
theorem row22 : chkRow Try.prog 22 31 2 = true := by kernel_rfl
theorem row23 : chkRow Try.prog 23 27 1 = true := by kernel_rfl

theorem clone85 {xs : List Delayed} {v : Value} {w W : World} (hx : Sl delT W Any xs v) (hW : Ext W w) (hn : xs.length ≤ 137438953472) :
    Calls Try.prog 85 #[v] w fun e w' => ∃ v', e = .returned v' ∧ HS w w' [Ck.mix delT 31 W v' xs 0] := by
  obtain ⟨A, c, rfl⟩ := hx.form
  refine calls_run Try.func85 (by kernel_rfl) ?_
  cases A with
  | none =>
    obtain ⟨A', c', h1, h2, h3, h4, h5⟩ := hx
    injection h1 with h6 h7 h8
    subst h6 h8
    have hc : c = 0 := h4 rfl
    have : xs = [] := List.length_eq_zero_iff.1 (by omega)
    subst this hc
    refine run_cond (t := true) (by kernel_rfl) (by kernel_rfl) (fun _ => ?_) (fun h => by cases h)
    exact run_ret (v := .slice none 0 0) (by kernel_rfl) (by kernel_rfl) (by kernel_rfl) ⟨_, rfl, (HS.refl w).mix_nil _ _⟩
  | some ad =>
    refine run_cond (t := false) (by kernel_rfl) (by kernel_rfl) (fun h => by cases h) (fun _ => ?_)
    refine run_val (v := .slice (some ⟨w.heap.size, 0, none⟩) 0 0) (by kernel_rfl) (op_buildSlice (e := 31) (len := 0) (cells := #[]) (by kernel_rfl)) ?_
    have H := (HS.refl w).made0 delT 31
    obtain ⟨v', w', hr, H⟩ := H.app_copy row22 hx (hW.trans H.below) hn
    refine run_val (by kernel_rfl) (op_append (s := .slice (some ⟨w.heap.size, 0, none⟩) 0 0) (by kernel_rfl) hr) ?_
    exact run_ret (v := v') (by kernel_rfl) (by kernel_rfl) (by kernel_rfl) ⟨_, rfl, H⟩

theorem clone86 {xs : List Bytes} {v : Value} {w W : World} (hx : Sl bytesT W Any xs v) (hW : Ext W w) (hn : xs.length ≤ 137438953472) :
    Calls Try.prog 86 #[v] w fun e w' => ∃ v', e = .returned v' ∧ HS w w' [Ck.mix bytesT 27 W v' xs 0] := by
  obtain ⟨A, c, rfl⟩ := hx.form
  refine calls_run Try.func86 (by kernel_rfl) ?_
  cases A with
  | none =>
    obtain ⟨A', c', h1, h2, h3, h4, h5⟩ := hx
    injection h1 with h6 h7 h8
    subst h6 h8
    have hc : c = 0 := h4 rfl
    have : xs = [] := List.length_eq_zero_iff.1 (by omega)
    subst this hc
    refine run_cond (t := true) (by kernel_rfl) (by kernel_rfl) (fun _ => ?_) (fun h => by cases h)
    exact run_ret (v := .slice none 0 0) (by kernel_rfl) (by kernel_rfl) (by kernel_rfl) ⟨_, rfl, (HS.refl w).mix_nil _ _⟩
  | some ad =>
    refine run_cond (t := false) (by kernel_rfl) (by kernel_rfl) (fun h => by cases h) (fun _ => ?_)
    refine run_val (v := .slice (some ⟨w.heap.size, 0, none⟩) 0 0) (by kernel_rfl) (op_buildSlice (e := 27) (len := 0) (cells := #[]) (by kernel_rfl)) ?_
    have H := (HS.refl w).made0 bytesT 27
    obtain ⟨v', w', hr, H⟩ := H.app_copy row23 hx (hW.trans H.below) hn
    refine run_val (by kernel_rfl) (op_append (s := .slice (some ⟨w.heap.size, 0, none⟩) 0 0) (by kernel_rfl) hr) ?_
    exact run_ret (v := v') (by kernel_rfl) (by kernel_rfl) (by kernel_rfl) ⟨_, rfl, H⟩

/-- Lengths that no copy is too long for. -/
def small (n : Nat) : Prop := n ≤ 137438953472

set_option maxHeartbeats 1000000 in
theorem copied_calls {x : Inbox} {vq vl : Value} {w : World} (hq : Sl delT w Any x.queue vq) (hl : Sl bytesT w Any x.list vl)
    (nq : small x.queue.length) (nl : small x.list.length) (mq : ∀ d ∈ x.queue, small d.msg.length) (ml : ∀ m ∈ x.list, small m.length) :
    Calls Try.prog 45 #[.agg #[vq, .int .i64 x.taken, vl, .int .u64 x.next]] w fun e w' => ∃ vq' vl', e = .returned (.agg #[vq', .int .i64 x.taken, vl', .int .u64 x.next]) ∧ HS w w' [Ck.own bytesT 27 vl' x.list, Ck.own delT 31 vq' x.queue] := by
  refine calls_run Try.func45 (by kernel_rfl) ?_
  refine run_box (t := 26) (v := .agg #[vq, .int .i64 x.taken, vl, .int .u64 x.next]) (HS.refl w) (by kernel_rfl) (by kernel_rfl) fun b1 w1 H => ?_
  refine run_alloc (t := 26) (v := .agg #[.slice none 0 0, .int .i64 0, .slice none 0 0, .int .u64 0]) H (by kernel_rfl) (by kernel_rfl) fun b2 w2 H => ?_
  refine run_draw follows (by kernel_rfl) fun w3 hE => ?_
  have H3 := H.ext hE
  clear H hE
  refine rob_ld (n := 1) (t := 22) (off := 0) (v := vq) H3 rfl (by kernel_rfl) rfl (by kernel_rfl) (by kernel_rfl) ?_
  refine rob_call (f := 85) (args := #[vq]) (by kernel_rfl) (by kernel_rfl) pf85 (clone85 hq H3.below nq) fun e w4 ⟨vq', he, h4⟩ => ⟨vq', he, .inr h4.below, ?_⟩
  obtain ⟨Aq, cq, rfl⟩ := h4.mix_form
  refine rob_ld (n := 1) (t := 23) (off := 2) (v := vl) H3 rfl (by kernel_rfl) (by kernel_rfl) (by kernel_rfl) (by kernel_rfl) ?_
  have H4 := H3.join h4
  refine rob_call (f := 86) (args := #[vl]) (by kernel_rfl) (by kernel_rfl) pf86 (clone86 hl H4.below nl) fun e w5 ⟨vl', he, h5⟩ => ⟨vl', he, .inr h5.below, ?_⟩
  obtain ⟨Al, cl, rfl⟩ := h5.mix_form
  have H5 := H4.join h5
  clear h4 h5
  refine rob_st (n := 3) (t := 22) (off := 0) (v := .slice Aq x.queue.length cq) (cs' := #[.slice Aq x.queue.length cq, .int .i64 x.taken, vl, .int .u64 x.next]) H5 rfl (by kernel_rfl) (by kernel_rfl) (by kernel_rfl) (by kernel_rfl) fun w6 H6 => ?_
  refine rob_st (n := 3) (t := 23) (off := 2) (v := .slice Al x.list.length cl) (cs' := #[.slice Aq x.queue.length cq, .int .i64 x.taken, .slice Al x.list.length cl, .int .u64 x.next]) H6 rfl (by kernel_rfl) (by kernel_rfl) (by kernel_rfl) (by kernel_rfl) fun w7 H7 => ?_
  refine rob_done (by kernel_rfl) ?_
  have H : HS w w7 [Ck.mix bytesT 27 w (.slice Al x.list.length cl) x.list 0, Ck.mix delT 31 w (.slice Aq x.queue.length cq) x.queue 0, Ck.blk b2 26 #[.slice none 0 0, .int .i64 0, .slice none 0 0, .int .u64 0],
    Ck.blk b1 26 #[.slice Aq x.queue.length cq, .int .i64 x.taken, .slice Al x.list.length cl, .int .u64 x.next]] := H7
  clear H7 H6 H5 H4
  have hE3 : Ext w w3 := H3.below
  clear H3
  refine run_ld (n := 3) (t := 22) (off := 0) (v := .slice Aq x.queue.length cq) H rfl (by kernel_rfl) (by kernel_rfl) (by kernel_rfl) ?_
  refine run_loop (fun m a w' => ∃ i, m = x.queue.length - i ∧ i ≤ x.queue.length ∧ (∃ u, a = env 50 u [(1, .pointer (some ⟨b1, 0, none⟩)), (2, .pointer (some ⟨b2, 0, none⟩)), (15, .int .i64 (x.queue.length : Int)), (16, .int .i64 (i : Int))]) ∧
    HS w w' [Ck.mix delT 31 w (.slice Aq x.queue.length cq) x.queue i, Ck.mix bytesT 27 w (.slice Al x.list.length cl) x.list 0, Ck.blk b2 26 #[.slice none 0 0, .int .i64 0, .slice none 0 0, .int .u64 0],
    Ck.blk b1 26 #[.slice Aq x.queue.length cq, .int .i64 x.taken, .slice Al x.list.length cl, .int .u64 x.next]]) _ (by kernel_rfl) ⟨0, rfl, Nat.zero_le _, env_intro (by kernel_rfl) (by kernel_rfl) (by kernel_rfl), H.swap⟩ ?_
  clear H
  rintro m a w8 ⟨i, rfl, hi, ⟨u, rfl⟩, H⟩ next
  refine run_if (p := (i : Int) < (x.queue.length : Int)) (by kernel_rfl) (by kernel_rfl) (fun hlt => ?_) (fun hge => ?_)
  · have hlt' : i < x.queue.length := by omega
    have hget := List.getElem?_eq_getElem hlt'
    generalize x.queue[i] = d at hget
    refine run_draw follows (by kernel_rfl) fun w9 hE => ?_
    have H9 := H.ext hE
    clear H hE
    obtain ⟨bq, cap, cur, c, hv, hb, hK, hcl, hcur, hsz⟩ := H9.mix_at hget
    injection hv with hv1 hv2 hv3
    subst hv1 hv3
    obtain ⟨vm, rfl, hwr, hm⟩ := delT_open hK
    refine rob_ld (n := 3) (t := 22) (off := 0) (v := .slice (some ⟨bq, 0, none⟩) x.queue.length cq) H9 rfl (by kernel_rfl) rfl (by kernel_rfl) (by kernel_rfl) ?_
    refine rob_ld (n := 3) (t := 22) (off := 0) (v := .slice (some ⟨bq, 0, none⟩) x.queue.length cq) H9 rfl (by kernel_rfl) rfl (by kernel_rfl) (by kernel_rfl) ?_
    refine rob_light (.pointer (some ⟨bq, 0 + i * 2, none⟩)) w9 (by kernel_rfl) rfl (fun w' _ => op_indexN (t := 22) (e := 31) (n := x.queue.length) (c := cq) (k := .i64) (by kernel_rfl) (by kernel_rfl) (by kernel_rfl) hlt') ?_
    refine rob_light vm w9 (by kernel_rfl) rfl (fun w' hE => op_load (t := 27) (b := bq) (off := 0 + i * 2 + 1) (by kernel_rfl) (run_loadVar_one (by kernel_rfl) (by
      rw [(hb.ext hE).cell, Nat.zero_add]; exact hcur 1 vm rfl))) ?_
    refine rob_call (f := 82) (args := #[vm]) (by kernel_rfl) (by kernel_rfl) pf82 (bytesClone_calls (hm.ext H9.below) (mq d (List.mem_of_getElem? hget))) fun e w10 ⟨v', he, h10⟩ => ⟨v', he, .inr h10.below, ?_⟩
    have H10 := H9.join h10
    have hb10 := hb.ext h10.below
    obtain ⟨Am, cm, rfl⟩ := h10.own_form
    refine rob_light (.pointer (some ⟨bq, 0 + i * 2, none⟩)) w10 (by kernel_rfl) (by kernel_rfl) (fun w' _ => op_indexN (t := 22) (e := 31) (n := x.queue.length) (c := cq) (k := .i64) (by kernel_rfl) (by kernel_rfl) (by kernel_rfl) hlt') ?_
    refine rob_bar (by kernel_rfl) (by kernel_rfl) (op_store1 (t := 27) (b := bq) (off := 0 + i * 2 + 1) (v := .slice Am d.msg.length cm) (by kernel_rfl) hb10 (by kernel_rfl) (by simp [delT, Ty.iso, Ty.pair, Ty.int, Ty.scalar, bytesT, Ty.bytes] at hsz; omega) rfl rfl) ?_
    have H11 := ((H10.map (c' := Ck.dat delT [.int .i64 d.block, .slice Am d.msg.length cm] d) fun S hS => delT_mk hwr hS).swap).mix_put hget hb10 (cur' := cur.setIfInBounds (0 + i * 2 + 1) (.slice Am d.msg.length cm)) (by simp)
      (fun k hk => by
        have : delT.sz = 2 := rfl
        rw [this] at hk
        rw [Array.getElem?_setIfInBounds_ne (by omega)])
      (fun k u hk => by
        have h2 : delT.sz = 2 := rfl
        rw [h2] at hsz ⊢
        match k, hk with
        | 0, hk =>
          simp at hk; subst hk
          rw [Array.getElem?_setIfInBounds_ne (by omega)]
          exact hcur 0 _ rfl
        | 1, hk =>
          simp at hk; subst hk
          rw [Nat.zero_add, Array.getElem?_setIfInBounds_self]
          simp; omega
        | k + 2, hk => simp at hk)
    refine rob_done (by kernel_rfl) ?_
    refine run_at (by kernel_rfl) (next (x.queue.length - (i + 1)) _ _ (by omega) ⟨i + 1, rfl, by omega, ?_, H11⟩)
    rw [← wrap_succ (by unfold small at nq; omega)]
    exact env_intro (by kernel_rfl) (by kernel_rfl) (by kernel_rfl)
  · obtain rfl : i = x.queue.length := by omega
    clear next hge hi
    have H := (H.mix_own (Nat.le_refl _)).swap
    refine run_ld (n := 3) (t := 23) (off := 2) (v := .slice Al x.list.length cl) H rfl (by kernel_rfl) (by kernel_rfl) (by kernel_rfl) ?_
    refine run_loop (fun m a w' => ∃ i, m = x.list.length - i ∧ i ≤ x.list.length ∧ (∃ u, a = env 50 u [(1, .pointer (some ⟨b1, 0, none⟩)), (2, .pointer (some ⟨b2, 0, none⟩)), (34, .int .i64 (x.list.length : Int)), (35, .int .i64 (i : Int))]) ∧
      HS w w' [Ck.mix bytesT 27 w (.slice Al x.list.length cl) x.list i, Ck.own delT 31 (.slice Aq x.queue.length cq) x.queue, Ck.blk b2 26 #[.slice none 0 0, .int .i64 0, .slice none 0 0, .int .u64 0],
      Ck.blk b1 26 #[.slice Aq x.queue.length cq, .int .i64 x.taken, .slice Al x.list.length cl, .int .u64 x.next]]) _ (by kernel_rfl) ⟨0, rfl, Nat.zero_le _, env_intro (by kernel_rfl) (by kernel_rfl) (by kernel_rfl), H⟩ ?_
    clear H
    rintro m a w8 ⟨i, rfl, hi, ⟨u, rfl⟩, H⟩ next
    refine run_if (p := (i : Int) < (x.list.length : Int)) (by kernel_rfl) (by kernel_rfl) (fun hlt => ?_) (fun hge => ?_)
    · have hlt' : i < x.list.length := by omega
      have hget := List.getElem?_eq_getElem hlt'
      generalize x.list[i] = d at hget
      refine run_draw follows (by kernel_rfl) fun w9 hE => ?_
      have H9 := H.ext hE
      clear H hE
      obtain ⟨bl, cap, cur, c, hv, hb, hK, hcl, hcur, hsz⟩ := H9.mix_at hget
      injection hv with hv1 hv2 hv3
      subst hv1 hv3
      obtain ⟨vm, rfl, hm⟩ := bytesT_open hK
      refine rob_ld (n := 3) (t := 23) (off := 2) (v := .slice (some ⟨bl, 0, none⟩) x.list.length cl) H9 rfl (by kernel_rfl) rfl (by kernel_rfl) (by kernel_rfl) ?_
      refine rob_ld (n := 3) (t := 23) (off := 2) (v := .slice (some ⟨bl, 0, none⟩) x.list.length cl) H9 rfl (by kernel_rfl) rfl (by kernel_rfl) (by kernel_rfl) ?_
      refine rob_light (.pointer (some ⟨bl, 0 + i * 1, none⟩)) w9 (by kernel_rfl) rfl (fun w' _ => op_indexN (t := 23) (e := 27) (n := x.list.length) (c := cl) (k := .i64) (by kernel_rfl) (by kernel_rfl) (by kernel_rfl) hlt') ?_
      refine rob_light vm w9 (by kernel_rfl) rfl (fun w' hE => op_load (t := 27) (b := bl) (off := 0 + i * 1) (by kernel_rfl) (run_loadVar_one (by kernel_rfl) (by
        rw [(hb.ext hE).cell, Nat.zero_add]; exact hcur 0 vm rfl))) ?_
      refine rob_call (f := 82) (args := #[vm]) (by kernel_rfl) (by kernel_rfl) pf82 (bytesClone_calls (hm.ext H9.below) (ml d (List.mem_of_getElem? hget))) fun e w10 ⟨v', he, h10⟩ => ⟨v', he, .inr h10.below, ?_⟩
      have H10 := H9.join h10
      have hb10 := hb.ext h10.below
      obtain ⟨Am, cm, rfl⟩ := h10.own_form
      refine rob_light (.pointer (some ⟨bl, 0 + i * 1, none⟩)) w10 (by kernel_rfl) (by kernel_rfl) (fun w' _ => op_indexN (t := 23) (e := 27) (n := x.list.length) (c := cl) (k := .i64) (by kernel_rfl) (by kernel_rfl) (by kernel_rfl) hlt') ?_
      have h1 : bytesT.sz = 1 := rfl
      rw [h1] at hsz
      refine rob_bar (by kernel_rfl) (by kernel_rfl) (op_store1 (t := 27) (b := bl) (off := 0 + i * 1) (v := .slice Am d.length cm) (by kernel_rfl) hb10 (by kernel_rfl) (by omega) rfl rfl) ?_
      have H11 := ((H10.map (c' := Ck.dat bytesT [.slice Am d.length cm] d) fun S hS => bytesT_mk hS).swap).mix_put hget hb10 (cur' := cur.setIfInBounds (0 + i * 1) (.slice Am d.length cm)) (by simp)
        (fun k hk => by
          rw [h1] at hk
          rw [Array.getElem?_setIfInBounds_ne (by omega)])
        (fun k u hk => by
          rw [h1]
          match k, hk with
          | 0, hk =>
            simp at hk; subst hk
            rw [Nat.zero_add, Nat.add_zero, Array.getElem?_setIfInBounds_self]
            simp; omega
          | k + 1, hk => simp at hk)
      refine rob_done (by kernel_rfl) ?_
      refine run_at (by kernel_rfl) (next (x.list.length - (i + 1)) _ _ (by omega) ⟨i + 1, rfl, by omega, ?_, H11⟩)
      rw [← wrap_succ (by unfold small at nl; omega)]
      exact env_intro (by kernel_rfl) (by kernel_rfl) (by kernel_rfl)
    · obtain rfl : i = x.list.length := by omega
      clear next hge hi
      have H := H.mix_own (Nat.le_refl _)
      refine run_ld (n := 3) (t := 26) (off := 0) (v := .agg #[.slice Aq x.queue.length cq, .int .i64 x.taken, .slice Al x.list.length cl, .int .u64 x.next]) H rfl (by kernel_rfl) (by kernel_rfl) (by kernel_rfl) ?_
      refine run_st (n := 2) (t := 26) (off := 0) (v := .agg #[.slice Aq x.queue.length cq, .int .i64 x.taken, .slice Al x.list.length cl, .int .u64 x.next]) (cs' := #[.slice Aq x.queue.length cq, .int .i64 x.taken, .slice Al x.list.length cl, .int .u64 x.next]) H rfl (by kernel_rfl) (by kernel_rfl) (by kernel_rfl) fun w10 H => ?_
      refine run_ret (v := .agg #[.slice Aq x.queue.length cq, .int .i64 x.taken, .slice Al x.list.length cl, .int .u64 x.next]) (by kernel_rfl) (by kernel_rfl) (res1 Try.results45 ⟨⟨b2, 0, none⟩, by kernel_rfl, run_loadVar_blk (H.blk 2 rfl) (by kernel_rfl)⟩) ⟨_, _, rfl, ?_⟩
      exact ((H.pick 3 rfl).drop.pick 2 rfl).drop
end Go.Proofs.Ythmajhdemooecaa
