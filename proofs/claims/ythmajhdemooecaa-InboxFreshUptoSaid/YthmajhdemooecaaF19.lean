/- The walks of the law's anchor, and of InboxOpen. -/
import Derived.Test.YthmajhdemooecaaP0
namespace Go.Proofs.Ythmajhdemooecaa
open Go.PM Go.RowKit
set_option linter.unusedVariables false
set_option linter.unusedSimpArgs false
set_option linter.unnecessarySimpa false
attribute [local irreducible] adv advD advF fuel

theorem pf9 : plainFn Try.prog 9 = true := by kernel_rfl
theorem pf3 : plainFn Try.prog 3 = true := by kernel_rfl

theorem calls_ret {f : FuncId} {args : Array Value} {w : World} {t : Inbox × Int} {y : Inbox} {er : Int} (h : Calls Try.prog f args w fun e w' => RetIn w e w' t.1 t.2) (he : t = (y, er)) : Calls Try.prog f args w fun e w' => RetIn w e w' y er := by
  subst he; exact h

set_option maxHeartbeats 1000000 in
theorem anchored9_calls (w : World) :
    Calls Try.prog 9 #[] w fun e w' => e = .returned (.bool true) ∧ Ext w w' := by
  have H := HS.refl w
  refine calls_run Try.func9 (by kernel_rfl) ?_
  refine run_bs (e := 5) (len := 1) (cells := #[.int .u8 7]) H (by kernel_rfl) (by kernel_rfl) fun bb1 wc H => ?_
  obtain ⟨y1, er_y1, hy_y1⟩ : ∃ zz ee, Inbox.zero.enq 3 [7] = (zz, ee) := ⟨_, _, rfl⟩
  have hy1m : y1.may = true := by have h := enq_may Inbox.zero 3 [7]; rw [hy_y1] at h; exact h
  have hz_y1 := may_le hy1m
  refine run_call (f := 10) (args := #[.agg #[.slice none 0 0, .int .i64 0, .slice none 0 0, .int .u64 0], .int .i64 3, .slice (some ⟨bb1, 0, none⟩) 1 1]) (by kernel_rfl) (by kernel_rfl) pf10 ((calls_ret (enq10_calls inarg_zero (block := 3) (by first | rfl | assumption | exact wrap_wrap _) (blk_u8 (H.blk 0 rfl) (n := 1) (xs := [7]) rfl (by decide) rfl) (by first | assumption | exact nml _ (List.mem_of_getElem? (by assumption)) | (show _ ≤ 137438953472; decide) | (unfold small; first | omega | (rw [writeP_len]; decide)))) hy_y1)) fun e wc ⟨vq_y1, vl_y1, he, hH⟩ => ⟨_, he, ?_⟩
  replace H := H.join hH
  clear hH
  obtain ⟨Aly1, cly1, rfl⟩ : ∃ A c, vl_y1 = .slice A y1.list.length c := (H.sl 0 rfl).form
  obtain ⟨Aqy1, cqy1, rfl⟩ : ∃ A c, vq_y1 = .slice A y1.queue.length c := (H.sl 1 rfl).form
  refine run_alloc (t := 26) (v := .agg #[.slice none 0 0, .int .i64 0, .slice none 0 0, .int .u64 0]) H (by kernel_rfl) (by kernel_rfl) fun b1 wc H => ?_
  refine run_st (n := 0) (t := 26) (off := 0) (v := .agg #[.slice Aqy1 y1.queue.length cqy1, .int .i64 y1.taken, .slice Aly1 y1.list.length cly1, .int .u64 y1.next]) (cs' := #[.slice Aqy1 y1.queue.length cqy1, .int .i64 y1.taken, .slice Aly1 y1.list.length cly1, .int .u64 y1.next]) H rfl (by kernel_rfl) (by kernel_rfl) (by kernel_rfl) fun wc H => ?_
  refine run_ld (n := 0) (t := 26) (off := 0) (v := .agg #[.slice Aqy1 y1.queue.length cqy1, .int .i64 y1.taken, .slice Aly1 y1.list.length cly1, .int .u64 y1.next]) H rfl (by kernel_rfl) (by kernel_rfl) (by kernel_rfl) ?_
  obtain ⟨y2, er_y2, hy_y2⟩ : ∃ zz ee, y1.tick 10 = (zz, ee) := ⟨_, _, rfl⟩
  have hy2m : y2.may = true := by have h := tick_may y1 10; rw [hy_y2] at h; exact h
  have hz_y2 := may_le hy2m
  refine run_call (f := 14) (args := #[.agg #[.slice Aqy1 y1.queue.length cqy1, .int .i64 y1.taken, .slice Aly1 y1.list.length cly1, .int .u64 y1.next], .int .i64 10]) (by kernel_rfl) (by kernel_rfl) pf14 ((calls_ret (tick14_calls (inarg_own (H.sl 2 rfl) (H.sl 1 rfl) hy1m) (block := 10) (by first | rfl | assumption | exact wrap_wrap _)) hy_y2)) fun e wc ⟨vq_y2, vl_y2, he, hH⟩ => ⟨_, he, ?_⟩
  replace H := H.join hH
  clear hH
  obtain ⟨Aly2, cly2, rfl⟩ : ∃ A c, vl_y2 = .slice A y2.list.length c := (H.sl 0 rfl).form
  obtain ⟨Aqy2, cqy2, rfl⟩ : ∃ A c, vq_y2 = .slice A y2.queue.length c := (H.sl 1 rfl).form
  refine run_alloc (t := 26) (v := .agg #[.slice none 0 0, .int .i64 0, .slice none 0 0, .int .u64 0]) H (by kernel_rfl) (by kernel_rfl) fun b2 wc H => ?_
  refine run_st (n := 0) (t := 26) (off := 0) (v := .agg #[.slice Aqy2 y2.queue.length cqy2, .int .i64 y2.taken, .slice Aly2 y2.list.length cly2, .int .u64 y2.next]) (cs' := #[.slice Aqy2 y2.queue.length cqy2, .int .i64 y2.taken, .slice Aly2 y2.list.length cly2, .int .u64 y2.next]) H rfl (by kernel_rfl) (by kernel_rfl) (by kernel_rfl) fun wc H => ?_
  refine run_ld (n := 3) (t := 26) (off := 0) (v := .agg #[.slice Aqy1 y1.queue.length cqy1, .int .i64 y1.taken, .slice Aly1 y1.list.length cly1, .int .u64 y1.next]) H rfl (by kernel_rfl) (by kernel_rfl) (by kernel_rfl) ?_
  obtain ⟨y3, er_y3, hy_y3⟩ : ∃ zz ee, y1.tick 11 = (zz, ee) := ⟨_, _, rfl⟩
  have hy3m : y3.may = true := by have h := tick_may y1 11; rw [hy_y3] at h; exact h
  have hz_y3 := may_le hy3m
  refine run_call (f := 14) (args := #[.agg #[.slice Aqy1 y1.queue.length cqy1, .int .i64 y1.taken, .slice Aly1 y1.list.length cly1, .int .u64 y1.next], .int .i64 11]) (by kernel_rfl) (by kernel_rfl) pf14 ((calls_ret (tick14_calls (inarg_own (H.sl 5 rfl) (H.sl 4 rfl) hy1m) (block := 11) (by first | rfl | assumption | exact wrap_wrap _)) hy_y3)) fun e wc ⟨vq_y3, vl_y3, he, hH⟩ => ⟨_, he, ?_⟩
  replace H := H.join hH
  clear hH
  obtain ⟨Aly3, cly3, rfl⟩ : ∃ A c, vl_y3 = .slice A y3.list.length c := (H.sl 0 rfl).form
  obtain ⟨Aqy3, cqy3, rfl⟩ : ∃ A c, vq_y3 = .slice A y3.queue.length c := (H.sl 1 rfl).form
  refine run_alloc (t := 26) (v := .agg #[.slice none 0 0, .int .i64 0, .slice none 0 0, .int .u64 0]) H (by kernel_rfl) (by kernel_rfl) fun b3 wc H => ?_
  refine run_st (n := 0) (t := 26) (off := 0) (v := .agg #[.slice Aqy3 y3.queue.length cqy3, .int .i64 y3.taken, .slice Aly3 y3.list.length cly3, .int .u64 y3.next]) (cs' := #[.slice Aqy3 y3.queue.length cqy3, .int .i64 y3.taken, .slice Aly3 y3.list.length cly3, .int .u64 y3.next]) H rfl (by kernel_rfl) (by kernel_rfl) (by kernel_rfl) fun wc H => ?_
  refine run_ask (er_y1 = 0) (by kernel_rfl) (by kernel_rfl) (fun hc => ?_) (fun hc => ?_)
  · refine run_ask (er_y2 = 0) (by kernel_rfl) (by kernel_rfl) (fun hc => ?_) (fun hc => ?_)
    · refine run_ask (er_y3 = 0) (by kernel_rfl) (by kernel_rfl) (fun hc => ?_) (fun hc => ?_)
      · refine run_ld (n := 3) (t := 23) (off := 2) (v := .slice Aly2 y2.list.length cly2) H rfl (by kernel_rfl) (by kernel_rfl) (by kernel_rfl) ?_
        refine run_ask ((y2.list.length : Int) = 0) (by kernel_rfl) (by kernel_rfl) (fun hc => ?_) (fun hc => ?_)
        · refine run_ld (n := 0) (t := 23) (off := 2) (v := .slice Aly3 y3.list.length cly3) H rfl (by kernel_rfl) (by kernel_rfl) (by kernel_rfl) ?_
          refine run_bs (e := 5) (len := 1) (cells := #[.int .u8 7]) H (by kernel_rfl) (by kernel_rfl) fun bb2 wc H => ?_
          refine run_bs (e := 27) (len := 1) (cells := #[.slice (some ⟨bb2, 0, none⟩) 1 1]) H (by kernel_rfl) (by kernel_rfl) fun bb3 wc H => ?_
          refine run_call (f := 15) (args := #[.slice Aly3 y3.list.length cly3, .slice (some ⟨bb3, 0, none⟩) 1 1]) (by kernel_rfl) (by kernel_rfl) pf15 (lists15_calls (H.sl 3 rfl) (blk_row1 (H.blk 0 rfl) (blk_u8 (H.blk 1 rfl) (n := 1) (xs := [7]) rfl (by decide) rfl)) (by unfold small; first | omega | (rw [List.length_take]; omega))) fun e wc ⟨he, hE⟩ => ⟨_, he, ?_⟩
          replace H := H.ext hE
          refine run_ask (y3.list = [[7]]) (by kernel_rfl) (by kernel_rfl) (fun hc => ?_) (fun hc => ?_)
          · refine run_ld (n := 2) (t := 3) (off := 1) (v := .int .i64 y3.taken) H rfl (by kernel_rfl) (by kernel_rfl) (by kernel_rfl) ?_
            have hM : true = (decide (y3.taken = 1)) := by obtain ⟨a1, a2, a3, a4, a5, a6⟩ := anch hy_y1 hy_y2 hy_y3; simp_all
            exact run_ret (v := .bool (decide (y3.taken = 1))) (by kernel_rfl) (by kernel_rfl) (by kernel_rfl) (⟨by rw [hM], H.below⟩)
            -- H : Ck.blk bb3 27 #[.slice (some ⟨bb2, 0, none⟩) 1 1], Ck.blk bb2 5 #[.int .u8 7], Ck.blk b3 26 #[.slice Aqy3 y3.queue.length cqy3, .int .i64 y3.taken, .slice Aly3 y3.list.length cly3, .int .u64 y3.next], Ck.own bytesT 27 (.slice Aly3 y3.list.length cly3) y3.list, Ck.own delT 31 (.slice Aqy3 y3.queue.length cqy3) y3.queue, Ck.blk b2 26 #[.slice Aqy2 y2.queue.length cqy2, .int .i64 y2.taken, .slice Aly2 y2.list.length cly2, .int .u64 y2.next], Ck.own bytesT 27 (.slice Aly2 y2.list.length cly2) y2.list, Ck.own delT 31 (.slice Aqy2 y2.queue.length cqy2) y2.queue, Ck.blk b1 26 #[.slice Aqy1 y1.queue.length cqy1, .int .i64 y1.taken, .slice Aly1 y1.list.length cly1, .int .u64 y1.next], Ck.own bytesT 27 (.slice Aly1 y1.list.length cly1) y1.list, Ck.own delT 31 (.slice Aqy1 y1.queue.length cqy1) y1.queue, Ck.blk bb1 5 #[.int .u8 7]
          · have hM : true = false := by obtain ⟨a1, a2, a3, a4, a5, a6⟩ := anch hy_y1 hy_y2 hy_y3; simp_all
            exact run_ret (v := .bool false) (by kernel_rfl) (by kernel_rfl) (by kernel_rfl) (⟨by rw [hM], H.below⟩)
            -- H : Ck.blk bb3 27 #[.slice (some ⟨bb2, 0, none⟩) 1 1], Ck.blk bb2 5 #[.int .u8 7], Ck.blk b3 26 #[.slice Aqy3 y3.queue.length cqy3, .int .i64 y3.taken, .slice Aly3 y3.list.length cly3, .int .u64 y3.next], Ck.own bytesT 27 (.slice Aly3 y3.list.length cly3) y3.list, Ck.own delT 31 (.slice Aqy3 y3.queue.length cqy3) y3.queue, Ck.blk b2 26 #[.slice Aqy2 y2.queue.length cqy2, .int .i64 y2.taken, .slice Aly2 y2.list.length cly2, .int .u64 y2.next], Ck.own bytesT 27 (.slice Aly2 y2.list.length cly2) y2.list, Ck.own delT 31 (.slice Aqy2 y2.queue.length cqy2) y2.queue, Ck.blk b1 26 #[.slice Aqy1 y1.queue.length cqy1, .int .i64 y1.taken, .slice Aly1 y1.list.length cly1, .int .u64 y1.next], Ck.own bytesT 27 (.slice Aly1 y1.list.length cly1) y1.list, Ck.own delT 31 (.slice Aqy1 y1.queue.length cqy1) y1.queue, Ck.blk bb1 5 #[.int .u8 7]
        · refine run_lit (.bool false) (by kernel_rfl) (by kernel_rfl) ?_
          have hM : true = false := by obtain ⟨a1, a2, a3, a4, a5, a6⟩ := anch hy_y1 hy_y2 hy_y3; simp_all
          exact run_ret (v := .bool false) (by kernel_rfl) (by kernel_rfl) (by kernel_rfl) (⟨by rw [hM], H.below⟩)
          -- H : Ck.blk b3 26 #[.slice Aqy3 y3.queue.length cqy3, .int .i64 y3.taken, .slice Aly3 y3.list.length cly3, .int .u64 y3.next], Ck.own bytesT 27 (.slice Aly3 y3.list.length cly3) y3.list, Ck.own delT 31 (.slice Aqy3 y3.queue.length cqy3) y3.queue, Ck.blk b2 26 #[.slice Aqy2 y2.queue.length cqy2, .int .i64 y2.taken, .slice Aly2 y2.list.length cly2, .int .u64 y2.next], Ck.own bytesT 27 (.slice Aly2 y2.list.length cly2) y2.list, Ck.own delT 31 (.slice Aqy2 y2.queue.length cqy2) y2.queue, Ck.blk b1 26 #[.slice Aqy1 y1.queue.length cqy1, .int .i64 y1.taken, .slice Aly1 y1.list.length cly1, .int .u64 y1.next], Ck.own bytesT 27 (.slice Aly1 y1.list.length cly1) y1.list, Ck.own delT 31 (.slice Aqy1 y1.queue.length cqy1) y1.queue, Ck.blk bb1 5 #[.int .u8 7]
      · refine run_lit (.bool false) (by kernel_rfl) (by kernel_rfl) ?_
        refine run_lit (.bool false) (by kernel_rfl) (by kernel_rfl) ?_
        have hM : true = false := by obtain ⟨a1, a2, a3, a4, a5, a6⟩ := anch hy_y1 hy_y2 hy_y3; simp_all
        exact run_ret (v := .bool false) (by kernel_rfl) (by kernel_rfl) (by kernel_rfl) (⟨by rw [hM], H.below⟩)
        -- H : Ck.blk b3 26 #[.slice Aqy3 y3.queue.length cqy3, .int .i64 y3.taken, .slice Aly3 y3.list.length cly3, .int .u64 y3.next], Ck.own bytesT 27 (.slice Aly3 y3.list.length cly3) y3.list, Ck.own delT 31 (.slice Aqy3 y3.queue.length cqy3) y3.queue, Ck.blk b2 26 #[.slice Aqy2 y2.queue.length cqy2, .int .i64 y2.taken, .slice Aly2 y2.list.length cly2, .int .u64 y2.next], Ck.own bytesT 27 (.slice Aly2 y2.list.length cly2) y2.list, Ck.own delT 31 (.slice Aqy2 y2.queue.length cqy2) y2.queue, Ck.blk b1 26 #[.slice Aqy1 y1.queue.length cqy1, .int .i64 y1.taken, .slice Aly1 y1.list.length cly1, .int .u64 y1.next], Ck.own bytesT 27 (.slice Aly1 y1.list.length cly1) y1.list, Ck.own delT 31 (.slice Aqy1 y1.queue.length cqy1) y1.queue, Ck.blk bb1 5 #[.int .u8 7]
    · refine run_lit (.bool false) (by kernel_rfl) (by kernel_rfl) ?_
      refine run_lit (.bool false) (by kernel_rfl) (by kernel_rfl) ?_
      refine run_lit (.bool false) (by kernel_rfl) (by kernel_rfl) ?_
      have hM : true = false := by obtain ⟨a1, a2, a3, a4, a5, a6⟩ := anch hy_y1 hy_y2 hy_y3; simp_all
      exact run_ret (v := .bool false) (by kernel_rfl) (by kernel_rfl) (by kernel_rfl) (⟨by rw [hM], H.below⟩)
      -- H : Ck.blk b3 26 #[.slice Aqy3 y3.queue.length cqy3, .int .i64 y3.taken, .slice Aly3 y3.list.length cly3, .int .u64 y3.next], Ck.own bytesT 27 (.slice Aly3 y3.list.length cly3) y3.list, Ck.own delT 31 (.slice Aqy3 y3.queue.length cqy3) y3.queue, Ck.blk b2 26 #[.slice Aqy2 y2.queue.length cqy2, .int .i64 y2.taken, .slice Aly2 y2.list.length cly2, .int .u64 y2.next], Ck.own bytesT 27 (.slice Aly2 y2.list.length cly2) y2.list, Ck.own delT 31 (.slice Aqy2 y2.queue.length cqy2) y2.queue, Ck.blk b1 26 #[.slice Aqy1 y1.queue.length cqy1, .int .i64 y1.taken, .slice Aly1 y1.list.length cly1, .int .u64 y1.next], Ck.own bytesT 27 (.slice Aly1 y1.list.length cly1) y1.list, Ck.own delT 31 (.slice Aqy1 y1.queue.length cqy1) y1.queue, Ck.blk bb1 5 #[.int .u8 7]
  · refine run_lit (.bool false) (by kernel_rfl) (by kernel_rfl) ?_
    refine run_lit (.bool false) (by kernel_rfl) (by kernel_rfl) ?_
    refine run_lit (.bool false) (by kernel_rfl) (by kernel_rfl) ?_
    refine run_lit (.bool false) (by kernel_rfl) (by kernel_rfl) ?_
    have hM : true = false := by obtain ⟨a1, a2, a3, a4, a5, a6⟩ := anch hy_y1 hy_y2 hy_y3; simp_all
    exact run_ret (v := .bool false) (by kernel_rfl) (by kernel_rfl) (by kernel_rfl) (⟨by rw [hM], H.below⟩)
    -- H : Ck.blk b3 26 #[.slice Aqy3 y3.queue.length cqy3, .int .i64 y3.taken, .slice Aly3 y3.list.length cly3, .int .u64 y3.next], Ck.own bytesT 27 (.slice Aly3 y3.list.length cly3) y3.list, Ck.own delT 31 (.slice Aqy3 y3.queue.length cqy3) y3.queue, Ck.blk b2 26 #[.slice Aqy2 y2.queue.length cqy2, .int .i64 y2.taken, .slice Aly2 y2.list.length cly2, .int .u64 y2.next], Ck.own bytesT 27 (.slice Aly2 y2.list.length cly2) y2.list, Ck.own delT 31 (.slice Aqy2 y2.queue.length cqy2) y2.queue, Ck.blk b1 26 #[.slice Aqy1 y1.queue.length cqy1, .int .i64 y1.taken, .slice Aly1 y1.list.length cly1, .int .u64 y1.next], Ck.own bytesT 27 (.slice Aly1 y1.list.length cly1) y1.list, Ck.own delT 31 (.slice Aqy1 y1.queue.length cqy1) y1.queue, Ck.blk bb1 5 #[.int .u8 7]

set_option maxHeartbeats 4000000 in
theorem open3_calls {x : Inbox} {vq vl vm vll : Value} {m : Bytes} {l : List Bytes} {ablock ato aam : Int} {w : World} (hx : InArg w x vq vl) (hm : Sl Ty.u8 w Any m vm) (hl : Sl bytesT w Any l vll) (nm : small m.length) (nl : small l.length) :
    Calls Try.prog 3 #[.agg #[vq, .int .i64 x.taken, vl, .int .u64 x.next], .agg #[.int .i64 ablock, vm, .int .u64 ato, .int .u64 aam], vll] w fun e w' => e = .returned (.bool true) ∧ Ext w w' := by
  have H := HS.refl w
  have hnq := hx.nq
  have hnl := hx.nl
  unfold small at hnq hnl nl
  obtain ⟨Aqx, cqx, rfl⟩ := hx.q.form
  obtain ⟨Alx, clx, rfl⟩ := hx.l.form
  obtain ⟨Am, cm, rfl⟩ := hm.form
  obtain ⟨Al, cl, rfl⟩ := hl.form
  refine calls_run Try.func3 (by kernel_rfl) ?_
  refine run_box (t := 26) (v := .agg #[.slice Aqx x.queue.length cqx, .int .i64 x.taken, .slice Alx x.list.length clx, .int .u64 x.next]) H (by kernel_rfl) (by kernel_rfl) fun b1 wc H => ?_
  refine run_box (t := 29) (v := .agg #[.int .i64 ablock, .slice Am m.length cm, .int .u64 ato, .int .u64 aam]) H (by kernel_rfl) (by kernel_rfl) fun b2 wc H => ?_
  refine run_cut (fun a w' => ∃ b0, (∃ u, a = env 164 u [(2, .slice Al l.length cl), (3, .pointer (some ⟨b1, 0, none⟩)), (7, .int .i64 b0), (8, .slice Am m.length cm)]) ∧ (0 ≤ b0 ∧ b0 ≤ 1000) ∧ HS w w' [Ck.blk b2 29 #[.int .i64 ablock, .slice Am m.length cm, .int .u64 ato, .int .u64 aam], Ck.blk b1 26 #[.slice Aqx x.queue.length cqx, .int .i64 x.taken, .slice Alx x.list.length clx, .int .u64 x.next]]) ?_ ?_
  · refine run_draw follows (by kernel_rfl) fun wD hE => ?_
    replace H := H.ext hE
    refine rob_ld (n := 0) (t := 3) (off := 0) (v := .int .i64 ablock) H rfl (by kernel_rfl) (by kernel_rfl) (by kernel_rfl) (by kernel_rfl) ?_
    refine rob_pure (.int .i64 (if (1000 : Int) < ablock then (1000 : Int) else ablock)) (by kernel_rfl) (fun _ => (by kernel_rfl)) ?_
    refine rob_pure (.int .i64 (if (if (1000 : Int) < ablock then (1000 : Int) else ablock) > (0 : Int) then (if (1000 : Int) < ablock then (1000 : Int) else ablock) else (0 : Int))) (by kernel_rfl) (fun _ => (by kernel_rfl)) ?_
    refine rob_ld (n := 0) (t := 27) (off := 1) (v := .slice Am m.length cm) H rfl (by kernel_rfl) (by kernel_rfl) (by kernel_rfl) (by kernel_rfl) ?_
    refine rob_done (by kernel_rfl) ?_
    exact run_cutEnd (by kernel_rfl) ⟨(if (if (1000 : Int) < ablock then (1000 : Int) else ablock) > (0 : Int) then (if (1000 : Int) < ablock then (1000 : Int) else ablock) else (0 : Int)), env_intro (by kernel_rfl) (by kernel_rfl) (by kernel_rfl), by constructor <;> (split <;> split <;> omega), H⟩
  · clear H
    rintro a w' ⟨b0, ⟨u, rfl⟩, hb0, H⟩
    refine run_cut (fun a w' => ∃ big, (∃ u, a = env 164 u [(2, .slice Al l.length cl), (3, .pointer (some ⟨b1, 0, none⟩)), (7, .int .i64 b0), (8, .slice Am m.length cm), (38, .bool (big))]) ∧ (big = decide (0 < x.queue.length ∧ 1099511627776 < lastB x.queue)) ∧ HS w w' [Ck.blk b2 29 #[.int .i64 ablock, .slice Am m.length cm, .int .u64 ato, .int .u64 aam], Ck.blk b1 26 #[.slice Aqx x.queue.length cqx, .int .i64 x.taken, .slice Alx x.list.length clx, .int .u64 x.next]]) ?_ ?_
    · refine run_ld (n := 1) (t := 22) (off := 0) (v := .slice Aqx x.queue.length cqx) H rfl (by kernel_rfl) (by kernel_rfl) (by kernel_rfl) ?_
      refine run_ask ((x.queue.length : Int) > 0) (by kernel_rfl) (by kernel_rfl) (fun hc => ?_) (fun hc => ?_)
      · refine run_ld (n := 1) (t := 22) (off := 0) (v := .slice Aqx x.queue.length cqx) H rfl (by kernel_rfl) (by kernel_rfl) (by kernel_rfl) ?_
        refine run_ld (n := 1) (t := 22) (off := 0) (v := .slice Aqx x.queue.length cqx) H rfl (by kernel_rfl) (by kernel_rfl) (by kernel_rfl) ?_
        obtain ⟨x1, hg_x1⟩ : ∃ z, (x.queue)[(x.queue.length - 1)]? = some z := ⟨_, List.getElem?_eq_getElem (by omega)⟩
        have hd_x1 := drop_cons hg_x1
        refine run_elemZ (t := 22) (e := 31) (k := .i64) (z := (IntKind.i64.wrap ((x.queue.length : Int) - 1))) (wrap_pred (by omega) (by omega)) hx.q hg_x1 (by kernel_rfl) (by kernel_rfl) (by kernel_rfl) (by kernel_rfl) fun be1 oe1 _ hK_x1 hc1 => ?_
        obtain ⟨vx1, rfl, hwx1, hx1⟩ := delT_open hK_x1
        obtain ⟨Ax1, cx1, rfl⟩ := hx1.form
        refine run_eld (t := 3) (f := 0) (v := .int .i64 x1.block) hc1 H.below rfl rfl (by kernel_rfl) (by kernel_rfl) (by kernel_rfl) ?_
        exact run_cutEnd (by kernel_rfl) ⟨decide (x1.block > 1099511627776), env_intro (by kernel_rfl) (by kernel_rfl) (by kernel_rfl), by first | (rw [lastB_get hg_x1]; simp; omega) | (simp; omega), H⟩
      · exact run_cutEnd (by kernel_rfl) ⟨false, env_intro (by kernel_rfl) (by kernel_rfl) (by kernel_rfl), by first | (rw [lastB_get hg_x1]; simp; omega) | (simp; omega), H⟩
    · clear H
      rintro a w' ⟨big, ⟨u, rfl⟩, hbig, H⟩
      refine run_cond (t := big) (by kernel_rfl) (by kernel_rfl) (fun hc => ?_) (fun hc => ?_)
      · refine run_call (f := 9) (args := #[]) (by kernel_rfl) (by kernel_rfl) pf9 (anchored9_calls _) fun e wc ⟨he, hE⟩ => ⟨_, he, ?_⟩
        replace H := H.ext hE
        exact run_ret (v := .bool true) (by kernel_rfl) (by kernel_rfl) (by kernel_rfl) (⟨rfl, H.below⟩)
      · refine run_ld (n := 1) (t := 22) (off := 0) (v := .slice Aqx x.queue.length cqx) H rfl (by kernel_rfl) (by kernel_rfl) (by kernel_rfl) ?_
        refine run_cut (fun a w' => ∃ block, (∃ u, a = env 164 u [(2, .slice Al l.length cl), (3, .pointer (some ⟨b1, 0, none⟩)), (7, .int .i64 block), (8, .slice Am m.length cm)]) ∧ (IntKind.i64.wrap block = block) ∧ (OpenB x b0 block) ∧ HS w w' [Ck.blk b2 29 #[.int .i64 ablock, .slice Am m.length cm, .int .u64 ato, .int .u64 aam], Ck.blk b1 26 #[.slice Aqx x.queue.length cqx, .int .i64 x.taken, .slice Alx x.list.length clx, .int .u64 x.next]]) ?_ ?_
        · refine run_if (p := (x.queue.length : Int) > 0) (by kernel_rfl) (by kernel_rfl) (fun hc => ?_) (fun hc => ?_)
          · refine run_ld (n := 1) (t := 22) (off := 0) (v := .slice Aqx x.queue.length cqx) H rfl (by kernel_rfl) (by kernel_rfl) (by kernel_rfl) ?_
            refine run_ld (n := 1) (t := 22) (off := 0) (v := .slice Aqx x.queue.length cqx) H rfl (by kernel_rfl) (by kernel_rfl) (by kernel_rfl) ?_
            obtain ⟨x2, hg_x2⟩ : ∃ z, (x.queue)[(x.queue.length - 1)]? = some z := ⟨_, List.getElem?_eq_getElem (by omega)⟩
            have hd_x2 := drop_cons hg_x2
            refine run_elemZ (t := 22) (e := 31) (k := .i64) (z := (IntKind.i64.wrap ((x.queue.length : Int) - 1))) (wrap_pred (by omega) (by omega)) hx.q hg_x2 (by kernel_rfl) (by kernel_rfl) (by kernel_rfl) (by kernel_rfl) fun be2 oe2 _ hK_x2 hc2 => ?_
            obtain ⟨vx2, rfl, hwx2, hx2⟩ := delT_open hK_x2
            obtain ⟨Ax2, cx2, rfl⟩ := hx2.form
            refine run_eld (t := 3) (f := 0) (v := .int .i64 x2.block) hc2 H.below rfl rfl (by kernel_rfl) (by kernel_rfl) (by kernel_rfl) ?_
            exact run_cutEnd (by kernel_rfl) ⟨(IntKind.i64.wrap (b0 + x2.block)), env_intro (by kernel_rfl) (by kernel_rfl) (by kernel_rfl), wrap_wrap _, openB_some hb0 hbig (by assumption) hc (lastB_get hg_x2) hwx2, H⟩
          · exact run_cutEnd (by kernel_rfl) ⟨b0, env_intro (by kernel_rfl) (by kernel_rfl) (by kernel_rfl), i64_of (by omega) (by omega), openB_none hb0 hc, H⟩
        · clear H
          rintro a w' ⟨block, ⟨u, rfl⟩, hbw, hB, H⟩
          refine run_ld (n := 1) (t := 26) (off := 0) (v := .agg #[.slice Aqx x.queue.length cqx, .int .i64 x.taken, .slice Alx x.list.length clx, .int .u64 x.next]) H rfl (by kernel_rfl) (by kernel_rfl) (by kernel_rfl) ?_
          obtain ⟨y1, er_y1, hy_y1⟩ : ∃ zz ee, x.enq block m = (zz, ee) := ⟨_, _, rfl⟩
          have hy1m : y1.may = true := by have h := enq_may x block m; rw [hy_y1] at h; exact h
          have hz_y1 := may_le hy1m
          refine run_call (f := 10) (args := #[.agg #[.slice Aqx x.queue.length cqx, .int .i64 x.taken, .slice Alx x.list.length clx, .int .u64 x.next], .int .i64 block, .slice Am m.length cm]) (by kernel_rfl) (by kernel_rfl) pf10 ((calls_ret (enq10_calls (hx.ext H.below) (block := block) (by first | rfl | assumption | exact wrap_wrap _) (hm.ext H.below) (by first | assumption | exact nml _ (List.mem_of_getElem? (by assumption)) | (show _ ≤ 137438953472; decide) | (unfold small; first | omega | (rw [writeP_len]; decide)))) hy_y1)) fun e wc ⟨vq_y1, vl_y1, he, hH⟩ => ⟨_, he, ?_⟩
          replace H := H.join hH
          clear hH
          obtain ⟨Aly1, cly1, rfl⟩ : ∃ A c, vl_y1 = .slice A y1.list.length c := (H.sl 0 rfl).form
          obtain ⟨Aqy1, cqy1, rfl⟩ : ∃ A c, vq_y1 = .slice A y1.queue.length c := (H.sl 1 rfl).form
          refine run_alloc (t := 26) (v := .agg #[.slice none 0 0, .int .i64 0, .slice none 0 0, .int .u64 0]) H (by kernel_rfl) (by kernel_rfl) fun b3 wc H => ?_
          refine run_st (n := 0) (t := 26) (off := 0) (v := .agg #[.slice Aqy1 y1.queue.length cqy1, .int .i64 y1.taken, .slice Aly1 y1.list.length cly1, .int .u64 y1.next]) (cs' := #[.slice Aqy1 y1.queue.length cqy1, .int .i64 y1.taken, .slice Aly1 y1.list.length cly1, .int .u64 y1.next]) H rfl (by kernel_rfl) (by kernel_rfl) (by kernel_rfl) fun wc H => ?_
          refine run_ifN (p := er_y1 = 0) (by kernel_rfl) (by kernel_rfl) (fun hc => ?_) (fun hc => ?_)
          · refine run_call (f := 9) (args := #[]) (by kernel_rfl) (by kernel_rfl) pf9 (anchored9_calls _) fun e wc ⟨he, hE⟩ => ⟨_, he, ?_⟩
            replace H := H.ext hE
            refine run_lit (.bool true) (by kernel_rfl) (by kernel_rfl) ?_
            refine run_ld (n := 4) (t := 26) (off := 0) (v := .agg #[.slice Aqx x.queue.length cqx, .int .i64 x.taken, .slice Alx x.list.length clx, .int .u64 x.next]) H rfl (by kernel_rfl) (by kernel_rfl) (by kernel_rfl) ?_
            refine run_call (f := 11) (args := #[.agg #[.slice Aqx x.queue.length cqx, .int .i64 x.taken, .slice Alx x.list.length clx, .int .u64 x.next]]) (by kernel_rfl) (by kernel_rfl) pf11 (may11_calls (hx.q.ext H.below) (hx.l.ext H.below) hx.nq hx.nl) fun e wc ⟨he, hE⟩ => ⟨_, he, ?_⟩
            replace H := H.ext hE
            refine run_askB (!x.may) (by kernel_rfl) (by kernel_rfl) (fun hc => ?_) (fun hc => ?_)
            · refine run_lit (.bool true) (by kernel_rfl) (by kernel_rfl) ?_
              refine run_lit (.bool true) (by kernel_rfl) (by kernel_rfl) ?_
              refine run_lit (.bool true) (by kernel_rfl) (by kernel_rfl) ?_
              exact run_ret (v := .bool true) (by kernel_rfl) (by kernel_rfl) (by kernel_rfl) (⟨rfl, H.below⟩)
            · refine run_call (f := 12) (args := #[.slice Am m.length cm]) (by kernel_rfl) (by kernel_rfl) pf12 (brings12_calls (hm.ext H.below)) fun e wc ⟨he, hE⟩ => ⟨_, he, ?_⟩
              replace H := H.ext hE
              refine run_ask (Brings m) (by kernel_rfl) (by kernel_rfl) (fun hc => ?_) (fun hc => ?_)
              · refine run_lit (.bool true) (by kernel_rfl) (by kernel_rfl) ?_
                refine run_lit (.bool true) (by kernel_rfl) (by kernel_rfl) ?_
                exact run_ret (v := .bool true) (by kernel_rfl) (by kernel_rfl) (by kernel_rfl) (⟨rfl, H.below⟩)
              · refine run_ask ((m.length : Int) > 65536) (by kernel_rfl) (by kernel_rfl) (fun hc => ?_) (fun hc => ?_)
                · refine run_lit (.bool true) (by kernel_rfl) (by kernel_rfl) ?_
                  exact run_ret (v := .bool true) (by kernel_rfl) (by kernel_rfl) (by kernel_rfl) (⟨rfl, H.below⟩)
                · refine run_ld (n := 4) (t := 22) (off := 0) (v := .slice Aqx x.queue.length cqx) H rfl (by kernel_rfl) (by kernel_rfl) (by kernel_rfl) ?_
                  refine run_ask ((x.queue.length : Int) = 4096) (by kernel_rfl) (by kernel_rfl) (fun hc => ?_) (fun hc => ?_)
                  · exact run_ret (v := .bool true) (by kernel_rfl) (by kernel_rfl) (by kernel_rfl) (⟨rfl, H.below⟩)
                  · have hM : true = decide (block < 0) := (decide_eq_true (open_err hy_y1 (by assumption) (by simpa using ‹(!x.may) = false›) (by assumption) (by omega) (by omega) hB)).symm
                    exact run_ret (v := .bool (decide (block < 0))) (by kernel_rfl) (by kernel_rfl) (by kernel_rfl) (⟨by rw [hM], H.below⟩)
          · refine run_ld (n := 0) (t := 22) (off := 0) (v := .slice Aqy1 y1.queue.length cqy1) H rfl (by kernel_rfl) (by kernel_rfl) (by kernel_rfl) ?_
            have h0e := hc
            have hq1 : y1.queue.length = x.queue.length + 1 := by rw [(openI_begin hy_y1 hc).q]; simp
            have H := H.sel [0, 1, 2, 3, 4] (by decide) (L' := [Ck.blk b3 26 #[.slice Aqy1 y1.queue.length cqy1, .int .i64 y1.taken, .slice Aly1 y1.list.length cly1, .int .u64 y1.next], Ck.own bytesT 27 (.slice Aly1 y1.list.length cly1) y1.list, Ck.own delT 31 (.slice Aqy1 y1.queue.length cqy1) y1.queue, Ck.blk b2 29 #[.int .i64 ablock, .slice Am m.length cm, .int .u64 ato, .int .u64 aam], Ck.blk b1 26 #[.slice Aqx x.queue.length cqx, .int .i64 x.taken, .slice Alx x.list.length clx, .int .u64 x.next]]) rfl
            refine run_loop (fun mm a w' => ∃ i, mm = l.length - i ∧ i ≤ l.length ∧ ∃ y, ∃ Aqy, ∃ cqy, ∃ Aly, ∃ cly, (∃ u, a = env 164 u [(2, .slice Al l.length cl), (3, .pointer (some ⟨b1, 0, none⟩)), (7, .int .i64 block), (8, .slice Am m.length cm), (9, .pointer (some ⟨b3, 0, none⟩)), (11, .int .i64 (y1.queue.length : Int)), (12, .int .i64 (i : Int))]) ∧ (y.may = true) ∧ (OpenI x ⟨block, m⟩ y) ∧ HS w w' [Ck.blk b3 26 #[.slice Aqy y.queue.length cqy, .int .i64 y.taken, .slice Aly y.list.length cly, .int .u64 y.next], Ck.own bytesT 27 (.slice Aly y.list.length cly) y.list, Ck.own delT 31 (.slice Aqy y.queue.length cqy) y.queue, Ck.blk b2 29 #[.int .i64 ablock, .slice Am m.length cm, .int .u64 ato, .int .u64 aam], Ck.blk b1 26 #[.slice Aqx x.queue.length cqx, .int .i64 x.taken, .slice Alx x.list.length clx, .int .u64 x.next]]) _ (by kernel_rfl) ⟨0, rfl, Nat.zero_le _, y1, _, _, _, _, env_intro (by kernel_rfl) (by kernel_rfl) (by kernel_rfl), hy1m, openI_begin hy_y1 hc, H⟩ ?_
            clear H
            rintro mm a w' ⟨i, rfl, hi, y, Aqy, cqy, Aly, cly, ⟨u, rfl⟩, hym, hI, H⟩ next
            refine run_if (p := (i : Int) < (l.length : Int)) (by kernel_rfl) (by kernel_rfl) (fun hc => ?_) (fun hc => ?_)
            · refine run_drawF H follows (by kernel_rfl) fun wD UD hE H => ?_
              have HD := H
              refine robF_ld (n := 1) (t := 26) (off := 0) (v := .agg #[.slice Aqy y.queue.length cqy, .int .i64 y.taken, .slice Aly y.list.length cly, .int .u64 y.next]) HD rfl (by kernel_rfl) (by kernel_rfl) (by kernel_rfl) (by kernel_rfl) ?_
              obtain ⟨x3, hg_x3⟩ : ∃ z, (l)[i]? = some z := ⟨_, List.getElem?_eq_getElem (by omega)⟩
              have hd_x3 := drop_cons hg_x3
              refine robF_elem (t := 23) (e := 27) (k := .i64) hl hg_x3 (by kernel_rfl) rfl (by kernel_rfl) (by kernel_rfl) (by kernel_rfl) fun be3 oe3 _ hK_x3 hc3 => ?_
              obtain ⟨vx3, rfl, hx3⟩ := bytesT_open hK_x3
              obtain ⟨Ax3, cx3, rfl⟩ := hx3.form
              refine robF_eld (t := 27) (f := 0) (v := .slice Ax3 x3.length cx3) hc3 H.below rfl rfl (by kernel_rfl) (by kernel_rfl) (by kernel_rfl) (by kernel_rfl) ?_
              obtain ⟨y2, er_y2, hy_y2⟩ : ∃ zz ee, y.post x3 = (zz, ee) := ⟨_, _, rfl⟩
              have hy2m : y2.may = true := by have h := post_may y x3; rw [hy_y2] at h; exact h
              have hz_y2 := may_le hy2m
              refine robF_call (f := 13) (args := #[.agg #[.slice Aqy y.queue.length cqy, .int .i64 y.taken, .slice Aly y.list.length cly, .int .u64 y.next], .slice Ax3 x3.length cx3]) H (by kernel_rfl) (by kernel_rfl) pf13 fun wG UG hG HG => ⟨_, (calls_ret (post13_calls (inarg_own (HG.sl 3 rfl) (HG.sl 2 rfl) hym) (hx3.ext HG.below)) hy_y2), fun e wc ⟨vq_y2, vl_y2, he, hH⟩ => ⟨_, he, hH.below, ?_⟩⟩
              replace H := HG.join hH
              clear hH
              obtain ⟨Aly2, cly2, rfl⟩ : ∃ A c, vl_y2 = .slice A y2.list.length c := (H.sl 0 rfl).form
              obtain ⟨Aqy2, cqy2, rfl⟩ : ∃ A c, vq_y2 = .slice A y2.queue.length c := (H.sl 1 rfl).form
              have H := H.pick 2 rfl
              refine robF_room (t := 26) (v := .agg #[.slice none 0 0, .int .i64 0, .slice none 0 0, .int .u64 0]) H (by kernel_rfl) (by kernel_rfl) fun b4 wc UG wF hG H => ?_
              refine robF_out H (by kernel_rfl) fun H => ?_
              refine rob_st (n := 0) (t := 26) (off := 0) (v := .agg #[.slice Aqy2 y2.queue.length cqy2, .int .i64 y2.taken, .slice Aly2 y2.list.length cly2, .int .u64 y2.next]) (cs' := #[.slice Aqy2 y2.queue.length cqy2, .int .i64 y2.taken, .slice Aly2 y2.list.length cly2, .int .u64 y2.next]) H rfl (by kernel_rfl) (by kernel_rfl) (by kernel_rfl) (by kernel_rfl) fun wc H => ?_
              refine rob_done (by kernel_rfl) ?_
              refine run_if (p := er_y2 = 0) (by kernel_rfl) (by kernel_rfl) (fun hc => ?_) (fun hc => ?_)
              · refine run_ld (n := 0) (t := 26) (off := 0) (v := .agg #[.slice Aqy2 y2.queue.length cqy2, .int .i64 y2.taken, .slice Aly2 y2.list.length cly2, .int .u64 y2.next]) H rfl (by kernel_rfl) (by kernel_rfl) (by kernel_rfl) ?_
                refine run_st (n := 3) (t := 26) (off := 0) (v := .agg #[.slice Aqy2 y2.queue.length cqy2, .int .i64 y2.taken, .slice Aly2 y2.list.length cly2, .int .u64 y2.next]) (cs' := #[.slice Aqy2 y2.queue.length cqy2, .int .i64 y2.taken, .slice Aly2 y2.list.length cly2, .int .u64 y2.next]) H rfl (by kernel_rfl) (by kernel_rfl) (by kernel_rfl) fun wc H => ?_
                refine run_at (by kernel_rfl) (next (l.length - (i + 1)) _ _ (by omega) ⟨i + 1, rfl, by omega, y2, Aqy2, cqy2, Aly2, cly2, ?_, hy2m, openI_post hym hI (er := er_y2) hy_y2 hc, ?_⟩)
                · rw [← wrap_succ (n := i) (by omega)]
                  exact env_intro (by kernel_rfl) (by kernel_rfl) (by kernel_rfl)
                · exact H.sel [3, 1, 2, 6, 7] (by decide) rfl
              · refine run_at (by kernel_rfl) (next (l.length - (i + 1)) _ _ (by omega) ⟨i + 1, rfl, by omega, y, Aqy, cqy, Aly, cly, ?_, hym, hI, ?_⟩)
                · rw [← wrap_succ (n := i) (by omega)]
                  exact env_intro (by kernel_rfl) (by kernel_rfl) (by kernel_rfl)
                · exact H.sel [3, 4, 5, 6, 7] (by decide) rfl
            · refine run_ld (n := 0) (t := 26) (off := 0) (v := .agg #[.slice Aqy y.queue.length cqy, .int .i64 y.taken, .slice Aly y.list.length cly, .int .u64 y.next]) H rfl (by kernel_rfl) (by kernel_rfl) (by kernel_rfl) ?_
              obtain ⟨y3, er_y3, hy_y3⟩ : ∃ zz ee, y.tick (IntKind.i64.wrap (block + 8)) = (zz, ee) := ⟨_, _, rfl⟩
              have hy3m : y3.may = true := by have h := tick_may y (IntKind.i64.wrap (block + 8)); rw [hy_y3] at h; exact h
              obtain ⟨e1, ⟨sx, e2⟩, e3⟩ := open_end hym hI hB (since_spec (enq_ok (h0e ▸ hy_y1)).1).2.1 hy_y3
              have hz_y3 := may_le hy3m
              refine run_call (f := 14) (args := #[.agg #[.slice Aqy y.queue.length cqy, .int .i64 y.taken, .slice Aly y.list.length cly, .int .u64 y.next], .int .i64 (IntKind.i64.wrap (block + 8))]) (by kernel_rfl) (by kernel_rfl) pf14 ((calls_ret (tick14_calls (inarg_own (H.sl 2 rfl) (H.sl 1 rfl) hym) (block := (IntKind.i64.wrap (block + 8))) (by first | rfl | assumption | exact wrap_wrap _)) hy_y3)) fun e wc ⟨vq_y3, vl_y3, he, hH⟩ => ⟨_, he, ?_⟩
              replace H := H.join hH
              clear hH
              obtain ⟨Aly3, cly3, rfl⟩ : ∃ A c, vl_y3 = .slice A y3.list.length c := (H.sl 0 rfl).form
              obtain ⟨Aqy3, cqy3, rfl⟩ : ∃ A c, vq_y3 = .slice A y3.queue.length c := (H.sl 1 rfl).form
              refine run_alloc (t := 26) (v := .agg #[.slice none 0 0, .int .i64 0, .slice none 0 0, .int .u64 0]) H (by kernel_rfl) (by kernel_rfl) fun b5 wc H => ?_
              refine run_st (n := 0) (t := 26) (off := 0) (v := .agg #[.slice Aqy3 y3.queue.length cqy3, .int .i64 y3.taken, .slice Aly3 y3.list.length cly3, .int .u64 y3.next]) (cs' := #[.slice Aqy3 y3.queue.length cqy3, .int .i64 y3.taken, .slice Aly3 y3.list.length cly3, .int .u64 y3.next]) H rfl (by kernel_rfl) (by kernel_rfl) (by kernel_rfl) fun wc H => ?_
              refine run_draw follows (by kernel_rfl) fun wD hE => ?_
              replace H := H.ext hE
              refine rob_askN (er_y3 = 0) (by kernel_rfl) (fun _ => (by kernel_rfl)) (fun hc => ?_) (fun hc => ?_)
              · refine rob_ld (n := 0) (t := 26) (off := 0) (v := .agg #[.slice Aqy3 y3.queue.length cqy3, .int .i64 y3.taken, .slice Aly3 y3.list.length cly3, .int .u64 y3.next]) H rfl (by kernel_rfl) (by kernel_rfl) (by kernel_rfl) (by kernel_rfl) ?_
                refine rob_call (f := 11) (args := #[.agg #[.slice Aqy3 y3.queue.length cqy3, .int .i64 y3.taken, .slice Aly3 y3.list.length cly3, .int .u64 y3.next]]) (by kernel_rfl) (by kernel_rfl) pf11 (may11_calls (H.sl 2 rfl) (H.sl 1 rfl) (may_small hy3m).1 (may_small hy3m).2) fun e wc ⟨he, hE⟩ => ⟨_, he, .inr (hE), ?_⟩
                replace H := H.ext hE
                refine rob_askB (!y3.may) (by kernel_rfl) (fun _ => (by kernel_rfl)) (fun hc => ?_) (fun hc => ?_)
                · refine rob_pure (.bool true) (by kernel_rfl) (fun _ => (by kernel_rfl)) ?_
                  refine rob_idleH (by kernel_rfl) ?_
                  refine rob_done (by kernel_rfl) ?_
                  refine run_cond (t := true) (by kernel_rfl) (by kernel_rfl) (fun _ => ?_) (fun h => by cases h)
                  exfalso
                  first | exact hc e1 | (rw [hy3m] at hc; cases hc) | (rw [e2] at hc; simp at hc; omega) | exact hc (by rw [e2]; simp) | (rcases e3 with h | ⟨h, h'⟩ <;> omega)
                · refine rob_ld (n := 0) (t := 23) (off := 2) (v := .slice Aly3 y3.list.length cly3) H rfl (by kernel_rfl) (by kernel_rfl) (by kernel_rfl) (by kernel_rfl) ?_
                  refine rob_ld (n := 7) (t := 23) (off := 2) (v := .slice Alx x.list.length clx) H rfl (by kernel_rfl) (by kernel_rfl) (by kernel_rfl) (by kernel_rfl) ?_
                  refine rob_ask ((y3.list.length : Int) < (x.list.length : Int)) (by kernel_rfl) (fun _ => (by kernel_rfl)) (fun hc => ?_) (fun hc => ?_)
                  · refine rob_idleH (by kernel_rfl) ?_
                    refine rob_done (by kernel_rfl) ?_
                    refine run_cond (t := true) (by kernel_rfl) (by kernel_rfl) (fun _ => ?_) (fun h => by cases h)
                    exfalso
                    first | exact hc e1 | (rw [hy3m] at hc; cases hc) | (rw [e2] at hc; simp at hc; omega) | exact hc (by rw [e2]; simp) | (rcases e3 with h | ⟨h, h'⟩ <;> omega)
                  · refine rob_ld (n := 0) (t := 23) (off := 2) (v := .slice Aly3 y3.list.length cly3) H rfl (by kernel_rfl) (by kernel_rfl) (by kernel_rfl) (by kernel_rfl) ?_
                    refine rob_ld (n := 7) (t := 23) (off := 2) (v := .slice Alx x.list.length clx) H rfl (by kernel_rfl) (by kernel_rfl) (by kernel_rfl) (by kernel_rfl) ?_
                    have hlen_As1 := ((H.sl 1 rfl)).len
                    obtain ⟨As1, hAs1⟩ : ∃ A', A' = if cly3 = 0 then Aly3 else Aly3.map (·.add (0 * 1)) := ⟨_, rfl⟩
                    refine rob_pure (.slice As1 x.list.length cly3) (by kernel_rfl) (fun _ => op_slice' (t := 23) (e := 27) (sz := 1) (n := y3.list.length) (c := cly3) (A := Aly3) (lo := none) (hi := some (.int .i64 (x.list.length : Int))) (l := 0) (h := x.list.length) (by kernel_rfl) (by kernel_rfl) (by kernel_rfl) (.inl ⟨rfl, rfl⟩) (.inr ⟨_, _, rfl, rfl⟩) (by omega) (by omega) hAs1 (by omega) (by omega)) ?_
                    refine rob_ld (n := 7) (t := 23) (off := 2) (v := .slice Alx x.list.length clx) H rfl (by kernel_rfl) (by kernel_rfl) (by kernel_rfl) (by kernel_rfl) ?_
                    refine rob_call (f := 15) (args := #[.slice As1 x.list.length cly3, .slice Alx x.list.length clx]) (by kernel_rfl) (by kernel_rfl) pf15 (lists15_calls (cutS (H.sl 1 rfl) (ys := (y3.list.take x.list.length)) (l := 0) (h := x.list.length) (by omega) (by omega) hAs1 (by omega) (by omega) (by simp)) (hx.l.ext H.below) (by unfold small; first | omega | (rw [List.length_take]; omega))) fun e wc ⟨he, hE⟩ => ⟨_, he, .inr (hE), ?_⟩
                    replace H := H.ext hE
                    refine rob_done (by kernel_rfl) ?_
                    refine run_ifN (p := (y3.list.take x.list.length) = x.list) (by kernel_rfl) (by kernel_rfl) (fun hc => ?_) (fun hc => ?_)
                    · exfalso
                      first | exact hc e1 | (rw [hy3m] at hc; cases hc) | (rw [e2] at hc; simp at hc; omega) | exact hc (by rw [e2]; simp) | (rcases e3 with h | ⟨h, h'⟩ <;> omega)
                    · refine run_call (f := 9) (args := #[]) (by kernel_rfl) (by kernel_rfl) pf9 (anchored9_calls _) fun e wc ⟨he, hE⟩ => ⟨_, he, ?_⟩
                      replace H := H.ext hE
                      refine run_lit (.bool true) (by kernel_rfl) (by kernel_rfl) ?_
                      refine run_ld (n := 0) (t := 23) (off := 2) (v := .slice Aly3 y3.list.length cly3) H rfl (by kernel_rfl) (by kernel_rfl) (by kernel_rfl) ?_
                      refine run_ask ((y3.list.length : Int) = 4096) (by kernel_rfl) (by kernel_rfl) (fun hc => ?_) (fun hc => ?_)
                      · exact run_ret (v := .bool true) (by kernel_rfl) (by kernel_rfl) (by kernel_rfl) (⟨rfl, H.below⟩)
                      · refine run_ld (n := 0) (t := 3) (off := 1) (v := .int .i64 y3.taken) H rfl (by kernel_rfl) (by kernel_rfl) (by kernel_rfl) ?_
                        refine run_ask (y3.taken ≥ (y1.queue.length : Int)) (by kernel_rfl) (by kernel_rfl) (fun hc => ?_) (fun hc => ?_)
                        · refine run_ld (n := 0) (t := 23) (off := 2) (v := .slice Aly3 y3.list.length cly3) H rfl (by kernel_rfl) (by kernel_rfl) (by kernel_rfl) ?_
                          refine run_call (f := 16) (args := #[.slice Aly3 y3.list.length cly3, .slice Am m.length cm]) (by kernel_rfl) (by kernel_rfl) pf16 (has16_calls (H.sl 1 rfl) (hm.ext H.below) (by unfold small; omega)) fun e wc ⟨he, hE⟩ => ⟨_, he, ?_⟩
                          replace H := H.ext hE
                          have hM : true = decide (m ∈ y3.list) := by rcases e3 with h | ⟨-, h'⟩; exact absurd h (by omega); exact (decide_eq_true h').symm
                          exact run_ret (v := .bool (decide (m ∈ y3.list))) (by kernel_rfl) (by kernel_rfl) (by kernel_rfl) (⟨by rw [hM], H.below⟩)
                        · exfalso
                          first | exact hc e1 | (rw [hy3m] at hc; cases hc) | (rw [e2] at hc; simp at hc; omega) | exact hc (by rw [e2]; simp) | (rcases e3 with h | ⟨h, h'⟩ <;> omega)
              · refine rob_idleH (by kernel_rfl) ?_
                refine rob_pure (.bool true) (by kernel_rfl) (fun _ => (by kernel_rfl)) ?_
                refine rob_pure (.bool true) (by kernel_rfl) (fun _ => (by kernel_rfl)) ?_
                refine rob_idleH (by kernel_rfl) ?_
                refine rob_done (by kernel_rfl) ?_
                refine run_cond (t := true) (by kernel_rfl) (by kernel_rfl) (fun _ => ?_) (fun h => by cases h)
                exfalso
                first | exact hc e1 | (rw [hy3m] at hc; cases hc) | (rw [e2] at hc; simp at hc; omega) | exact hc (by rw [e2]; simp) | (rcases e3 with h | ⟨h, h'⟩ <;> omega)
end Go.Proofs.Ythmajhdemooecaa
