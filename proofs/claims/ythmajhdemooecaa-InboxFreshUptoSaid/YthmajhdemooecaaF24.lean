/- The walk of the document's Same of inboxes. -/
import Derived.Test.YthmajhdemooecaaF23
namespace Go.Proofs.Ythmajhdemooecaa
open Go.PM Go.RowKit
set_option linter.unusedVariables false
set_option linter.unusedSimpArgs false
attribute [local irreducible] adv advD advF fuel

instance : DecidableEq Delayed := fun d e => decidable_of_iff (d.block = e.block ∧ d.msg = e.msg) (by
  obtain ⟨a, b⟩ := d; obtain ⟨a', b'⟩ := e; simp)
instance : DecidableEq Inbox := fun x y => decidable_of_iff (x.queue = y.queue ∧ x.taken = y.taken ∧ x.list = y.list ∧ x.next = y.next) (by
  obtain ⟨q, t, l, n⟩ := x; obtain ⟨q', t', l', n'⟩ := y; simp)

theorem same_begin {x y : Inbox} (h1 : x.queue.length = y.queue.length) (h2 : x.taken = y.taken) (h3 : x.next = y.next) : decide (x = y) = decide (x.queue.drop 0 = y.queue.drop 0 ∧ x.list = y.list) := by
  obtain ⟨q, t, l, n⟩ := x
  obtain ⟨q', t', l', n'⟩ := y
  simp only [List.drop_zero, Inbox.mk.injEq] at *
  simp [h2, h3]
theorem same_step {d e : Delayed} {q r : List Delayed} {p : Prop} [Decidable p] (h1 : d.block = e.block) (h2 : d.msg = e.msg) : decide (d :: q = e :: r ∧ p) = decide (q = r ∧ p) := by
  obtain ⟨a, b⟩ := d; obtain ⟨a', b'⟩ := e
  simp only [] at h1 h2
  subst h1; subst h2
  simp
theorem same_ne {d e : Delayed} {q r : List Delayed} {p : Prop} [Decidable p] (h1 : d.block ≠ e.block) : decide (d :: q = e :: r ∧ p) = false := by
  apply decide_eq_false; rintro ⟨h, -⟩; injection h with h; exact h1 (by rw [h])
theorem same_ne2 {d e : Delayed} {q r : List Delayed} {p : Prop} [Decidable p] (h1 : ¬ d.msg = e.msg) : decide (d :: q = e :: r ∧ p) = false := by
  apply decide_eq_false; rintro ⟨h, -⟩; injection h with h; exact h1 (by rw [h])

theorem same_no {x y : Inbox} (h : x = y) (hn : (x.queue.length : Int) ≠ y.queue.length ∨ x.taken ≠ y.taken ∨ x.next ≠ y.next) : False := by
  subst h; simp at hn

theorem same22_calls {x y : Inbox} {vq vl vr vk : Value} {w : World} (hx : InArg w x vq vl) (hy : InArg w y vr vk) :
    Calls Try.prog 22 #[.agg #[vq, .int .i64 x.taken, vl, .int .u64 x.next], .agg #[vr, .int .i64 y.taken, vk, .int .u64 y.next]] w fun e w' => e = .returned (.bool (decide (x = y))) ∧ Ext w w' := by
  have H := HS.refl w
  have hnq := hx.nq
  have hnl := hx.nl
  have hnr := hy.nq
  have hnk := hy.nl
  unfold small at hnq hnl hnr hnk
  obtain ⟨Aqx, cqx, rfl⟩ := hx.q.form
  obtain ⟨Alx, clx, rfl⟩ := hx.l.form
  obtain ⟨Aqy, cqy, rfl⟩ := hy.q.form
  obtain ⟨Aly, cly, rfl⟩ := hy.l.form
  refine calls_run Try.func22 (by kernel_rfl) ?_
  refine run_box (t := 26) (v := .agg #[.slice Aqx x.queue.length cqx, .int .i64 x.taken, .slice Alx x.list.length clx, .int .u64 x.next]) H (by kernel_rfl) (by kernel_rfl) fun b1 wc H => ?_
  refine run_box (t := 26) (v := .agg #[.slice Aqy y.queue.length cqy, .int .i64 y.taken, .slice Aly y.list.length cly, .int .u64 y.next]) H (by kernel_rfl) (by kernel_rfl) fun b2 wc H => ?_
  refine run_ld (n := 1) (t := 22) (off := 0) (v := .slice Aqx x.queue.length cqx) H rfl (by kernel_rfl) (by kernel_rfl) (by kernel_rfl) ?_
  refine run_ld (n := 0) (t := 22) (off := 0) (v := .slice Aqy y.queue.length cqy) H rfl (by kernel_rfl) (by kernel_rfl) (by kernel_rfl) ?_
  refine run_askN ((x.queue.length : Int) = (y.queue.length : Int)) (by kernel_rfl) (by kernel_rfl) (fun hc => ?_) (fun hc => ?_)
  · refine run_ld (n := 1) (t := 3) (off := 1) (v := .int .i64 x.taken) H rfl (by kernel_rfl) (by kernel_rfl) (by kernel_rfl) ?_
    refine run_ld (n := 0) (t := 3) (off := 1) (v := .int .i64 y.taken) H rfl (by kernel_rfl) (by kernel_rfl) (by kernel_rfl) ?_
    refine run_askN (x.taken = y.taken) (by kernel_rfl) (by kernel_rfl) (fun hc => ?_) (fun hc => ?_)
    · refine run_ld (n := 1) (t := 24) (off := 3) (v := .int .u64 x.next) H rfl (by kernel_rfl) (by kernel_rfl) (by kernel_rfl) ?_
      refine run_ld (n := 0) (t := 24) (off := 3) (v := .int .u64 y.next) H rfl (by kernel_rfl) (by kernel_rfl) (by kernel_rfl) ?_
      refine run_ifN (p := x.next = y.next) (by kernel_rfl) (by kernel_rfl) (fun hc => ?_) (fun hc => ?_)
      · have hM : decide (x = y) = false := by first | (rw [hM0, List.drop_eq_nil_of_le (by omega), List.drop_eq_nil_of_le (by omega)]; simp; done) | (rw [hM0, hd_x1, hd_x2]; exact same_ne (by assumption)) | (rw [hM0, hd_x1, hd_x2]; exact same_ne2 (by assumption)) | exact decide_eq_false (fun h => same_no h (by omega))
        exact run_ret (v := .bool false) (by kernel_rfl) (by kernel_rfl) (by kernel_rfl) (⟨by rw [hM], H.below⟩)
        -- H : Ck.blk b2 26 #[.slice Aqy y.queue.length cqy, .int .i64 y.taken, .slice Aly y.list.length cly, .int .u64 y.next], Ck.blk b1 26 #[.slice Aqx x.queue.length cqx, .int .i64 x.taken, .slice Alx x.list.length clx, .int .u64 x.next]
      · refine run_loop (fun mm a w' => ∃ i, mm = x.queue.length - i ∧ i ≤ x.queue.length ∧ (∃ u, a = env 68 u [(2, .pointer (some ⟨b1, 0, none⟩)), (3, .pointer (some ⟨b2, 0, none⟩)), (5, .int .i64 (i : Int))]) ∧ (decide (x = y) = decide (x.queue.drop i = y.queue.drop i ∧ x.list = y.list)) ∧ HS w w' [Ck.blk b2 26 #[.slice Aqy y.queue.length cqy, .int .i64 y.taken, .slice Aly y.list.length cly, .int .u64 y.next], Ck.blk b1 26 #[.slice Aqx x.queue.length cqx, .int .i64 x.taken, .slice Alx x.list.length clx, .int .u64 x.next]]) _ (by kernel_rfl) ⟨0, rfl, Nat.zero_le _, env_intro (by kernel_rfl) (by kernel_rfl) (by kernel_rfl), same_begin (by omega) (by assumption) (by assumption), H⟩ ?_
        clear H
        rintro mm a w' ⟨i, rfl, hi, ⟨u, rfl⟩, hM0, H⟩ next
        refine run_ld (n := 1) (t := 22) (off := 0) (v := .slice Aqx x.queue.length cqx) H rfl (by kernel_rfl) (by kernel_rfl) (by kernel_rfl) ?_
        refine run_if (p := (i : Int) < (x.queue.length : Int)) (by kernel_rfl) (by kernel_rfl) (fun hc => ?_) (fun hc => ?_)
        · refine run_draw follows (by kernel_rfl) fun wD hE => ?_
          replace H := H.ext hE
          refine rob_ld (n := 1) (t := 22) (off := 0) (v := .slice Aqx x.queue.length cqx) H rfl (by kernel_rfl) (by kernel_rfl) (by kernel_rfl) (by kernel_rfl) ?_
          obtain ⟨x1, hg_x1⟩ : ∃ z, (x.queue)[i]? = some z := ⟨_, List.getElem?_eq_getElem (by omega)⟩
          have hd_x1 := drop_cons hg_x1
          refine rob_elem (t := 22) (e := 31) (k := .i64) hx.q hg_x1 (by kernel_rfl) rfl (by kernel_rfl) (by kernel_rfl) (by kernel_rfl) fun be1 oe1 _ hK_x1 hc1 => ?_
          obtain ⟨vx1, rfl, hwx1, hx1⟩ := delT_open hK_x1
          obtain ⟨Ax1, cx1, rfl⟩ := hx1.form
          refine rob_eld (t := 3) (f := 0) (v := .int .i64 x1.block) hc1 H.below rfl rfl (by kernel_rfl) (by kernel_rfl) (by kernel_rfl) (by kernel_rfl) ?_
          refine rob_ld (n := 0) (t := 22) (off := 0) (v := .slice Aqy y.queue.length cqy) H rfl (by kernel_rfl) (by kernel_rfl) (by kernel_rfl) (by kernel_rfl) ?_
          obtain ⟨x2, hg_x2⟩ : ∃ z, (y.queue)[i]? = some z := ⟨_, List.getElem?_eq_getElem (by omega)⟩
          have hd_x2 := drop_cons hg_x2
          refine rob_elem (t := 22) (e := 31) (k := .i64) hy.q hg_x2 (by kernel_rfl) rfl (by kernel_rfl) (by kernel_rfl) (by kernel_rfl) fun be2 oe2 _ hK_x2 hc2 => ?_
          obtain ⟨vx2, rfl, hwx2, hx2⟩ := delT_open hK_x2
          obtain ⟨Ax2, cx2, rfl⟩ := hx2.form
          refine rob_eld (t := 3) (f := 0) (v := .int .i64 x2.block) hc2 H.below rfl rfl (by kernel_rfl) (by kernel_rfl) (by kernel_rfl) (by kernel_rfl) ?_
          refine rob_askN (x1.block = x2.block) (by kernel_rfl) (fun _ => (by kernel_rfl)) (fun hc => ?_) (fun hc => ?_)
          · refine rob_ld (n := 1) (t := 22) (off := 0) (v := .slice Aqx x.queue.length cqx) H rfl (by kernel_rfl) (by kernel_rfl) (by kernel_rfl) (by kernel_rfl) ?_
            refine rob_elem (t := 22) (e := 31) (k := .i64) hx.q hg_x1 (by kernel_rfl) rfl (by kernel_rfl) (by kernel_rfl) (by kernel_rfl) fun be3 oe3 _ hK_x1_1 hc3 => ?_
            obtain ⟨vx1_1, rfl, hwx1_1, hx1_1⟩ := delT_open hK_x1_1
            obtain ⟨Ax1_1, cx1_1, rfl⟩ := hx1_1.form
            refine rob_eld (t := 27) (f := 1) (v := .slice Ax1_1 x1.msg.length cx1_1) hc3 H.below rfl rfl (by kernel_rfl) (by kernel_rfl) (by kernel_rfl) (by kernel_rfl) ?_
            refine rob_ld (n := 0) (t := 22) (off := 0) (v := .slice Aqy y.queue.length cqy) H rfl (by kernel_rfl) (by kernel_rfl) (by kernel_rfl) (by kernel_rfl) ?_
            refine rob_elem (t := 22) (e := 31) (k := .i64) hy.q hg_x2 (by kernel_rfl) rfl (by kernel_rfl) (by kernel_rfl) (by kernel_rfl) fun be4 oe4 _ hK_x2_1 hc4 => ?_
            obtain ⟨vx2_1, rfl, hwx2_1, hx2_1⟩ := delT_open hK_x2_1
            obtain ⟨Ax2_1, cx2_1, rfl⟩ := hx2_1.form
            refine rob_eld (t := 27) (f := 1) (v := .slice Ax2_1 x2.msg.length cx2_1) hc4 H.below rfl rfl (by kernel_rfl) (by kernel_rfl) (by kernel_rfl) (by kernel_rfl) ?_
            refine rob_call (f := 23) (args := #[.slice Ax1_1 x1.msg.length cx1_1, .slice Ax2_1 x2.msg.length cx2_1]) (by kernel_rfl) (by kernel_rfl) pf23 (same23_calls (hx1_1.ext H.below) (hx2_1.ext H.below)) fun e wc ⟨he, hE⟩ => ⟨_, he, .inr (hE), ?_⟩
            replace H := H.ext hE
            refine rob_done (by kernel_rfl) ?_
            refine run_ifN (p := x1.msg = x2.msg) (by kernel_rfl) (by kernel_rfl) (fun hc => ?_) (fun hc => ?_)
            · have hM : decide (x = y) = false := by first | (rw [hM0, List.drop_eq_nil_of_le (by omega), List.drop_eq_nil_of_le (by omega)]; simp; done) | (rw [hM0, hd_x1, hd_x2]; exact same_ne (by assumption)) | (rw [hM0, hd_x1, hd_x2]; exact same_ne2 (by assumption)) | exact decide_eq_false (fun h => same_no h (by omega))
              exact run_ret (v := .bool false) (by kernel_rfl) (by kernel_rfl) (by kernel_rfl) (⟨by rw [hM], H.below⟩)
              -- H : Ck.blk b2 26 #[.slice Aqy y.queue.length cqy, .int .i64 y.taken, .slice Aly y.list.length cly, .int .u64 y.next], Ck.blk b1 26 #[.slice Aqx x.queue.length cqx, .int .i64 x.taken, .slice Alx x.list.length clx, .int .u64 x.next]
            · refine run_at (by kernel_rfl) (next (x.queue.length - (i + 1)) _ _ (by omega) ⟨i + 1, rfl, by omega, ?_, by rw [hM0, hd_x1, hd_x2]; exact same_step (by assumption) (by assumption), ?_⟩)
              · rw [← wrap_succ (n := i) (by omega)]
                exact env_intro (by kernel_rfl) (by kernel_rfl) (by kernel_rfl)
              · exact H
          · refine rob_idleH (by kernel_rfl) ?_
            refine rob_done (by kernel_rfl) ?_
            refine run_cond (t := true) (by kernel_rfl) (by kernel_rfl) (fun _ => ?_) (fun h => by cases h)
            have hM : decide (x = y) = false := by first | (rw [hM0, List.drop_eq_nil_of_le (by omega), List.drop_eq_nil_of_le (by omega)]; simp; done) | (rw [hM0, hd_x1, hd_x2]; exact same_ne (by assumption)) | (rw [hM0, hd_x1, hd_x2]; exact same_ne2 (by assumption)) | exact decide_eq_false (fun h => same_no h (by omega))
            exact run_ret (v := .bool false) (by kernel_rfl) (by kernel_rfl) (by kernel_rfl) (⟨by rw [hM], H.below⟩)
            -- H : Ck.blk b2 26 #[.slice Aqy y.queue.length cqy, .int .i64 y.taken, .slice Aly y.list.length cly, .int .u64 y.next], Ck.blk b1 26 #[.slice Aqx x.queue.length cqx, .int .i64 x.taken, .slice Alx x.list.length clx, .int .u64 x.next]
        · refine run_ld (n := 1) (t := 23) (off := 2) (v := .slice Alx x.list.length clx) H rfl (by kernel_rfl) (by kernel_rfl) (by kernel_rfl) ?_
          refine run_ld (n := 0) (t := 23) (off := 2) (v := .slice Aly y.list.length cly) H rfl (by kernel_rfl) (by kernel_rfl) (by kernel_rfl) ?_
          refine run_call (f := 15) (args := #[.slice Alx x.list.length clx, .slice Aly y.list.length cly]) (by kernel_rfl) (by kernel_rfl) pf15 (lists15_calls (hx.l.ext H.below) (hy.l.ext H.below) (by unfold small; first | omega | (rw [List.length_take]; omega))) fun e wc ⟨he, hE⟩ => ⟨_, he, ?_⟩
          replace H := H.ext hE
          have hM : decide (x = y) = (decide (x.list = y.list)) := by first | (rw [hM0, List.drop_eq_nil_of_le (by omega), List.drop_eq_nil_of_le (by omega)]; simp; done) | (rw [hM0, hd_x1, hd_x2]; exact same_ne (by assumption)) | (rw [hM0, hd_x1, hd_x2]; exact same_ne2 (by assumption)) | exact decide_eq_false (fun h => same_no h (by omega))
          exact run_ret (v := .bool (decide (x.list = y.list))) (by kernel_rfl) (by kernel_rfl) (by kernel_rfl) (⟨by rw [hM], H.below⟩)
          -- H : Ck.blk b2 26 #[.slice Aqy y.queue.length cqy, .int .i64 y.taken, .slice Aly y.list.length cly, .int .u64 y.next], Ck.blk b1 26 #[.slice Aqx x.queue.length cqx, .int .i64 x.taken, .slice Alx x.list.length clx, .int .u64 x.next]
    · refine run_cond (t := true) (by kernel_rfl) (by kernel_rfl) (fun _ => ?_) (fun h => by cases h)
      have hM : decide (x = y) = false := by first | (rw [hM0, List.drop_eq_nil_of_le (by omega), List.drop_eq_nil_of_le (by omega)]; simp; done) | (rw [hM0, hd_x1, hd_x2]; exact same_ne (by assumption)) | (rw [hM0, hd_x1, hd_x2]; exact same_ne2 (by assumption)) | exact decide_eq_false (fun h => same_no h (by omega))
      exact run_ret (v := .bool false) (by kernel_rfl) (by kernel_rfl) (by kernel_rfl) (⟨by rw [hM], H.below⟩)
      -- H : Ck.blk b2 26 #[.slice Aqy y.queue.length cqy, .int .i64 y.taken, .slice Aly y.list.length cly, .int .u64 y.next], Ck.blk b1 26 #[.slice Aqx x.queue.length cqx, .int .i64 x.taken, .slice Alx x.list.length clx, .int .u64 x.next]
  · refine run_lit (.bool true) (by kernel_rfl) (by kernel_rfl) ?_
    refine run_cond (t := true) (by kernel_rfl) (by kernel_rfl) (fun _ => ?_) (fun h => by cases h)
    have hM : decide (x = y) = false := by first | (rw [hM0, List.drop_eq_nil_of_le (by omega), List.drop_eq_nil_of_le (by omega)]; simp; done) | (rw [hM0, hd_x1, hd_x2]; exact same_ne (by assumption)) | (rw [hM0, hd_x1, hd_x2]; exact same_ne2 (by assumption)) | exact decide_eq_false (fun h => same_no h (by omega))
    exact run_ret (v := .bool false) (by kernel_rfl) (by kernel_rfl) (by kernel_rfl) (⟨by rw [hM], H.below⟩)
    -- H : Ck.blk b2 26 #[.slice Aqy y.queue.length cqy, .int .i64 y.taken, .slice Aly y.list.length cly, .int .u64 y.next], Ck.blk b1 26 #[.slice Aqx x.queue.length cqx, .int .i64 x.taken, .slice Alx x.list.length clx, .int .u64 x.next]
end Go.Proofs.Ythmajhdemooecaa
