/- The walk of InboxDeposits. -/
import Derived.Test.YthmajhdemooecaaP1
namespace Go.Proofs.Ythmajhdemooecaa
open Go.PM Go.RowKit
set_option linter.unusedVariables false
set_option linter.unusedSimpArgs false
attribute [local irreducible] adv advD advF fuel

theorem pf4 : plainFn Try.prog 4 = true := by kernel_rfl
theorem pf12' : plainFn Try.prog 12 = true := by kernel_rfl

set_option maxHeartbeats 4000000 in
theorem deposits4_calls {x : Inbox} {vq vl vm vll : Value} {m : Bytes} {l : List Bytes} {ablock ato aam : Int} {w : World} (hx : InArg w x vq vl) (hm : Sl Ty.u8 w Any m vm) (hl : Sl bytesT w Any l vll) (nm : small m.length) (nl : small l.length) (nml : ∀ m ∈ l, small m.length) :
    Calls Try.prog 4 #[.agg #[vq, .int .i64 x.taken, vl, .int .u64 x.next], .agg #[.int .i64 ablock, vm, .int .u64 ato, .int .u64 aam], vll] w fun e w' => e = .returned (.bool true) ∧ Ext w w' := by
  have H := HS.refl w
  have hnq := hx.nq
  have hnl := hx.nl
  unfold small at hnq hnl nl
  obtain ⟨Aqx, cqx, rfl⟩ := hx.q.form
  obtain ⟨Alx, clx, rfl⟩ := hx.l.form
  obtain ⟨Am, cm, rfl⟩ := hm.form
  obtain ⟨Al, cl, rfl⟩ := hl.form
  refine calls_run Try.func4 (by kernel_rfl) ?_
  refine run_box (t := 26) (v := .agg #[.slice Aqx x.queue.length cqx, .int .i64 x.taken, .slice Alx x.list.length clx, .int .u64 x.next]) H (by kernel_rfl) (by kernel_rfl) fun b1 wc H => ?_
  refine run_box (t := 29) (v := .agg #[.int .i64 ablock, .slice Am m.length cm, .int .u64 ato, .int .u64 aam]) H (by kernel_rfl) (by kernel_rfl) fun b2 wc H => ?_
  refine run_ld (n := 1) (t := 26) (off := 0) (v := .agg #[.slice Aqx x.queue.length cqx, .int .i64 x.taken, .slice Alx x.list.length clx, .int .u64 x.next]) H rfl (by kernel_rfl) (by kernel_rfl) (by kernel_rfl) ?_
  refine run_alloc (t := 26) (v := .agg #[.slice none 0 0, .int .i64 0, .slice none 0 0, .int .u64 0]) H (by kernel_rfl) (by kernel_rfl) fun b3 wc H => ?_
  refine run_st (n := 0) (t := 26) (off := 0) (v := .agg #[.slice Aqx x.queue.length cqx, .int .i64 x.taken, .slice Alx x.list.length clx, .int .u64 x.next]) (cs' := #[.slice Aqx x.queue.length cqx, .int .i64 x.taken, .slice Alx x.list.length clx, .int .u64 x.next]) H rfl (by kernel_rfl) (by kernel_rfl) (by kernel_rfl) fun wc H => ?_
  have H := ((H.slIn hx.q).slIn hx.l)
  have H := H.sel [2, 0, 1, 3, 4] (by decide) (L' := [Ck.blk b3 26 #[.slice Aqx x.queue.length cqx, .int .i64 x.taken, .slice Alx x.list.length clx, .int .u64 x.next], Ck.sl bytesT x.list (.slice Alx x.list.length clx) w, Ck.sl delT x.queue (.slice Aqx x.queue.length cqx) w, Ck.blk b2 29 #[.int .i64 ablock, .slice Am m.length cm, .int .u64 ato, .int .u64 aam], Ck.blk b1 26 #[.slice Aqx x.queue.length cqx, .int .i64 x.taken, .slice Alx x.list.length clx, .int .u64 x.next]]) rfl
  refine run_loop (fun mm a w' => ∃ i, mm = l.length - i ∧ i ≤ l.length ∧ ∃ y, ∃ Aqy, ∃ cqy, ∃ Aly, ∃ cly, (∃ u, a = env 146 u [(2, .slice Al l.length cl), (3, .pointer (some ⟨b1, 0, none⟩)), (4, .pointer (some ⟨b2, 0, none⟩)), (7, .pointer (some ⟨b3, 0, none⟩)), (8, .int .i64 (i : Int))]) ∧ (SmallIn y) ∧ (DepI x y) ∧ HS w w' [Ck.blk b3 26 #[.slice Aqy y.queue.length cqy, .int .i64 y.taken, .slice Aly y.list.length cly, .int .u64 y.next], Ck.sl bytesT y.list (.slice Aly y.list.length cly) w, Ck.sl delT y.queue (.slice Aqy y.queue.length cqy) w, Ck.blk b2 29 #[.int .i64 ablock, .slice Am m.length cm, .int .u64 ato, .int .u64 aam], Ck.blk b1 26 #[.slice Aqx x.queue.length cqx, .int .i64 x.taken, .slice Alx x.list.length clx, .int .u64 x.next]]) _ (by kernel_rfl) ⟨0, rfl, Nat.zero_le _, x, _, _, _, _, env_intro (by kernel_rfl) (by kernel_rfl) (by kernel_rfl), hx.sm, .inl rfl, H⟩ ?_
  clear H
  rintro mm a w' ⟨i, rfl, hi, y, Aqy, cqy, Aly, cly, ⟨u, rfl⟩, hs_y, hI, H⟩ next
  refine run_if (p := (i : Int) < (l.length : Int)) (by kernel_rfl) (by kernel_rfl) (fun hc => ?_) (fun hc => ?_)
  · refine run_drawF H follows (by kernel_rfl) fun wD UD hE H => ?_
    have HD := H
    refine robF_ld (n := 1) (t := 26) (off := 0) (v := .agg #[.slice Aqy y.queue.length cqy, .int .i64 y.taken, .slice Aly y.list.length cly, .int .u64 y.next]) HD rfl (by kernel_rfl) (by kernel_rfl) (by kernel_rfl) (by kernel_rfl) ?_
    refine robF_ld (n := 4) (t := 3) (off := 0) (v := .int .i64 ablock) HD rfl (by kernel_rfl) (by kernel_rfl) (by kernel_rfl) (by kernel_rfl) ?_
    obtain ⟨x1, hg_x1⟩ : ∃ z, (l)[i]? = some z := ⟨_, List.getElem?_eq_getElem (by omega)⟩
    have hd_x1 := drop_cons hg_x1
    refine robF_elem (t := 23) (e := 27) (k := .i64) hl hg_x1 (by kernel_rfl) rfl (by kernel_rfl) (by kernel_rfl) (by kernel_rfl) fun be1 oe1 _ hK_x1 hc1 => ?_
    obtain ⟨vx1, rfl, hx1⟩ := bytesT_open hK_x1
    obtain ⟨Ax1, cx1, rfl⟩ := hx1.form
    refine robF_eld (t := 27) (f := 0) (v := .slice Ax1 x1.length cx1) hc1 H.below rfl rfl (by kernel_rfl) (by kernel_rfl) (by kernel_rfl) (by kernel_rfl) ?_
    obtain ⟨y1, er_y1, hy_y1⟩ : ∃ zz ee, y.enq (IntKind.i64.wrap (ablock + (i : Int))) x1 = (zz, ee) := ⟨_, _, rfl⟩
    have hy1m : y1.may = true := by have h := enq_may y (IntKind.i64.wrap (ablock + (i : Int))) x1; rw [hy_y1] at h; exact h
    have hz_y1 := may_le hy1m
    refine robF_call (f := 10) (args := #[.agg #[.slice Aqy y.queue.length cqy, .int .i64 y.taken, .slice Aly y.list.length cly, .int .u64 y.next], .int .i64 (IntKind.i64.wrap (ablock + (i : Int))), .slice Ax1 x1.length cx1]) H (by kernel_rfl) (by kernel_rfl) pf10 fun wG UG hG HG => ⟨_, (calls_ret (enq10_calls (inarg_sm (HG.sl2 3 rfl) (HG.sl2 2 rfl) hs_y) (block := (IntKind.i64.wrap (ablock + (i : Int)))) (by first | rfl | assumption | exact wrap_wrap _) (hx1.ext HG.below) (by first | assumption | exact nml _ (List.mem_of_getElem? (by assumption)) | (show _ ≤ 137438953472; decide) | (unfold small; first | omega | (rw [writeP_len]; decide)))) hy_y1), fun e wc ⟨vq_y1, vl_y1, he, hH⟩ => ⟨_, he, hH.below, ?_⟩⟩
    replace H := HG.join hH
    clear hH
    obtain ⟨Aly1, cly1, rfl⟩ : ∃ A c, vl_y1 = .slice A y1.list.length c := (H.sl 0 rfl).form
    obtain ⟨Aqy1, cqy1, rfl⟩ : ∃ A c, vq_y1 = .slice A y1.queue.length c := (H.sl 1 rfl).form
    have H := H.pick 2 rfl
    refine robF_room (t := 26) (v := .agg #[.slice none 0 0, .int .i64 0, .slice none 0 0, .int .u64 0]) H (by kernel_rfl) (by kernel_rfl) fun b4 wc UG wF hG H => ?_
    refine robF_out H (by kernel_rfl) fun H => ?_
    refine rob_st (n := 0) (t := 26) (off := 0) (v := .agg #[.slice Aqy1 y1.queue.length cqy1, .int .i64 y1.taken, .slice Aly1 y1.list.length cly1, .int .u64 y1.next]) (cs' := #[.slice Aqy1 y1.queue.length cqy1, .int .i64 y1.taken, .slice Aly1 y1.list.length cly1, .int .u64 y1.next]) H rfl (by kernel_rfl) (by kernel_rfl) (by kernel_rfl) (by kernel_rfl) fun wc H => ?_
    refine rob_done (by kernel_rfl) ?_
    refine run_if (p := er_y1 = 0) (by kernel_rfl) (by kernel_rfl) (fun hc => ?_) (fun hc => ?_)
    · refine run_ld (n := 0) (t := 26) (off := 0) (v := .agg #[.slice Aqy1 y1.queue.length cqy1, .int .i64 y1.taken, .slice Aly1 y1.list.length cly1, .int .u64 y1.next]) H rfl (by kernel_rfl) (by kernel_rfl) (by kernel_rfl) ?_
      refine run_st (n := 3) (t := 26) (off := 0) (v := .agg #[.slice Aqy1 y1.queue.length cqy1, .int .i64 y1.taken, .slice Aly1 y1.list.length cly1, .int .u64 y1.next]) (cs' := #[.slice Aqy1 y1.queue.length cqy1, .int .i64 y1.taken, .slice Aly1 y1.list.length cly1, .int .u64 y1.next]) H rfl (by kernel_rfl) (by kernel_rfl) (by kernel_rfl) fun wc H => ?_
      refine run_drawF H follows (by kernel_rfl) fun wD UD hE H => ?_
      have HD := H
      refine robF_ld (n := 4) (t := 26) (off := 0) (v := .agg #[.slice Aqy1 y1.queue.length cqy1, .int .i64 y1.taken, .slice Aly1 y1.list.length cly1, .int .u64 y1.next]) HD rfl (by kernel_rfl) (by kernel_rfl) (by kernel_rfl) (by kernel_rfl) ?_
      refine robF_elem (t := 23) (e := 27) (k := .i64) hl hg_x1 (by kernel_rfl) rfl (by kernel_rfl) (by kernel_rfl) (by kernel_rfl) fun be2 oe2 _ hK_x1_1 hc2 => ?_
      obtain ⟨vx1_1, rfl, hx1_1⟩ := bytesT_open hK_x1_1
      obtain ⟨Ax1_1, cx1_1, rfl⟩ := hx1_1.form
      refine robF_eld (t := 27) (f := 0) (v := .slice Ax1_1 x1.length cx1_1) hc2 H.below rfl rfl (by kernel_rfl) (by kernel_rfl) (by kernel_rfl) (by kernel_rfl) ?_
      obtain ⟨y2, er_y2, hy_y2⟩ : ∃ zz ee, y1.post x1 = (zz, ee) := ⟨_, _, rfl⟩
      have hy2m : y2.may = true := by have h := post_may y1 x1; rw [hy_y2] at h; exact h
      have hz_y2 := may_le hy2m
      refine robF_call (f := 13) (args := #[.agg #[.slice Aqy1 y1.queue.length cqy1, .int .i64 y1.taken, .slice Aly1 y1.list.length cly1, .int .u64 y1.next], .slice Ax1_1 x1.length cx1_1]) H (by kernel_rfl) (by kernel_rfl) pf13 fun wG UG hG HG => ⟨_, (calls_ret (post13_calls (inarg_own (HG.sl 3 rfl) (HG.sl 2 rfl) hy1m) (hx1_1.ext HG.below)) hy_y2), fun e wc ⟨vq_y2, vl_y2, he, hH⟩ => ⟨_, he, hH.below, ?_⟩⟩
      replace H := HG.join hH
      clear hH
      obtain ⟨Aly2, cly2, rfl⟩ : ∃ A c, vl_y2 = .slice A y2.list.length c := (H.sl 0 rfl).form
      obtain ⟨Aqy2, cqy2, rfl⟩ : ∃ A c, vq_y2 = .slice A y2.queue.length c := (H.sl 1 rfl).form
      have H := H.pick 2 rfl
      refine robF_room (t := 26) (v := .agg #[.slice none 0 0, .int .i64 0, .slice none 0 0, .int .u64 0]) H (by kernel_rfl) (by kernel_rfl) fun b5 wc UG wF hG H => ?_
      refine robF_out H (by kernel_rfl) fun H => ?_
      refine rob_st (n := 0) (t := 26) (off := 0) (v := .agg #[.slice Aqy2 y2.queue.length cqy2, .int .i64 y2.taken, .slice Aly2 y2.list.length cly2, .int .u64 y2.next]) (cs' := #[.slice Aqy2 y2.queue.length cqy2, .int .i64 y2.taken, .slice Aly2 y2.list.length cly2, .int .u64 y2.next]) H rfl (by kernel_rfl) (by kernel_rfl) (by kernel_rfl) (by kernel_rfl) fun wc H => ?_
      refine rob_done (by kernel_rfl) ?_
      refine run_if (p := er_y2 = 0) (by kernel_rfl) (by kernel_rfl) (fun hc => ?_) (fun hc => ?_)
      · refine run_ld (n := 0) (t := 26) (off := 0) (v := .agg #[.slice Aqy2 y2.queue.length cqy2, .int .i64 y2.taken, .slice Aly2 y2.list.length cly2, .int .u64 y2.next]) H rfl (by kernel_rfl) (by kernel_rfl) (by kernel_rfl) ?_
        refine run_st (n := 6) (t := 26) (off := 0) (v := .agg #[.slice Aqy2 y2.queue.length cqy2, .int .i64 y2.taken, .slice Aly2 y2.list.length cly2, .int .u64 y2.next]) (cs' := #[.slice Aqy2 y2.queue.length cqy2, .int .i64 y2.taken, .slice Aly2 y2.list.length cly2, .int .u64 y2.next]) H rfl (by kernel_rfl) (by kernel_rfl) (by kernel_rfl) fun wc H => ?_
        have H := H.sel [6, 1, 2, 9, 10] (by decide) (L' := [Ck.blk b3 26 #[.slice Aqy2 y2.queue.length cqy2, .int .i64 y2.taken, .slice Aly2 y2.list.length cly2, .int .u64 y2.next], Ck.own bytesT 27 (.slice Aly2 y2.list.length cly2) y2.list, Ck.own delT 31 (.slice Aqy2 y2.queue.length cqy2) y2.queue, Ck.blk b2 29 #[.int .i64 ablock, .slice Am m.length cm, .int .u64 ato, .int .u64 aam], Ck.blk b1 26 #[.slice Aqx x.queue.length cqx, .int .i64 x.taken, .slice Alx x.list.length clx, .int .u64 x.next]]) rfl
        have H := H.toSl2
        refine run_at (by kernel_rfl) (next (l.length - (i + 1)) _ _ (by omega) ⟨i + 1, rfl, by omega, y2, Aqy2, cqy2, Aly2, cly2, ?_, (sm_may hy2m), (depI_post (depI_enq hI hy_y1 (by assumption)) hy_y2 (by assumption)), H⟩)
        rw [← wrap_succ (n := i) (by omega)]
        exact env_intro (by kernel_rfl) (by kernel_rfl) (by kernel_rfl)
      · have H := H.sel [6, 4, 5, 9, 10] (by decide) (L' := [Ck.blk b3 26 #[.slice Aqy1 y1.queue.length cqy1, .int .i64 y1.taken, .slice Aly1 y1.list.length cly1, .int .u64 y1.next], Ck.own bytesT 27 (.slice Aly1 y1.list.length cly1) y1.list, Ck.own delT 31 (.slice Aqy1 y1.queue.length cqy1) y1.queue, Ck.blk b2 29 #[.int .i64 ablock, .slice Am m.length cm, .int .u64 ato, .int .u64 aam], Ck.blk b1 26 #[.slice Aqx x.queue.length cqx, .int .i64 x.taken, .slice Alx x.list.length clx, .int .u64 x.next]]) rfl
        have H := H.toSl2
        refine run_at (by kernel_rfl) (next (l.length - (i + 1)) _ _ (by omega) ⟨i + 1, rfl, by omega, y1, Aqy1, cqy1, Aly1, cly1, ?_, (sm_may hy1m), (depI_enq hI hy_y1 (by assumption)), H⟩)
        rw [← wrap_succ (n := i) (by omega)]
        exact env_intro (by kernel_rfl) (by kernel_rfl) (by kernel_rfl)
    · refine run_drawF H follows (by kernel_rfl) fun wD UD hE H => ?_
      have HD := H
      refine robF_ld (n := 4) (t := 26) (off := 0) (v := .agg #[.slice Aqy y.queue.length cqy, .int .i64 y.taken, .slice Aly y.list.length cly, .int .u64 y.next]) HD rfl (by kernel_rfl) (by kernel_rfl) (by kernel_rfl) (by kernel_rfl) ?_
      refine robF_elem (t := 23) (e := 27) (k := .i64) hl hg_x1 (by kernel_rfl) rfl (by kernel_rfl) (by kernel_rfl) (by kernel_rfl) fun be3 oe3 _ hK_x1_2 hc3 => ?_
      obtain ⟨vx1_2, rfl, hx1_2⟩ := bytesT_open hK_x1_2
      obtain ⟨Ax1_2, cx1_2, rfl⟩ := hx1_2.form
      refine robF_eld (t := 27) (f := 0) (v := .slice Ax1_2 x1.length cx1_2) hc3 H.below rfl rfl (by kernel_rfl) (by kernel_rfl) (by kernel_rfl) (by kernel_rfl) ?_
      obtain ⟨y3, er_y3, hy_y3⟩ : ∃ zz ee, y.post x1 = (zz, ee) := ⟨_, _, rfl⟩
      have hy3m : y3.may = true := by have h := post_may y x1; rw [hy_y3] at h; exact h
      have hz_y3 := may_le hy3m
      refine robF_call (f := 13) (args := #[.agg #[.slice Aqy y.queue.length cqy, .int .i64 y.taken, .slice Aly y.list.length cly, .int .u64 y.next], .slice Ax1_2 x1.length cx1_2]) H (by kernel_rfl) (by kernel_rfl) pf13 fun wG UG hG HG => ⟨_, (calls_ret (post13_calls (inarg_sm (HG.sl2 6 rfl) (HG.sl2 5 rfl) hs_y) (hx1_2.ext HG.below)) hy_y3), fun e wc ⟨vq_y3, vl_y3, he, hH⟩ => ⟨_, he, hH.below, ?_⟩⟩
      replace H := HG.join hH
      clear hH
      obtain ⟨Aly3, cly3, rfl⟩ : ∃ A c, vl_y3 = .slice A y3.list.length c := (H.sl 0 rfl).form
      obtain ⟨Aqy3, cqy3, rfl⟩ : ∃ A c, vq_y3 = .slice A y3.queue.length c := (H.sl 1 rfl).form
      have H := H.pick 2 rfl
      refine robF_room (t := 26) (v := .agg #[.slice none 0 0, .int .i64 0, .slice none 0 0, .int .u64 0]) H (by kernel_rfl) (by kernel_rfl) fun b6 wc UG wF hG H => ?_
      refine robF_out H (by kernel_rfl) fun H => ?_
      refine rob_st (n := 0) (t := 26) (off := 0) (v := .agg #[.slice Aqy3 y3.queue.length cqy3, .int .i64 y3.taken, .slice Aly3 y3.list.length cly3, .int .u64 y3.next]) (cs' := #[.slice Aqy3 y3.queue.length cqy3, .int .i64 y3.taken, .slice Aly3 y3.list.length cly3, .int .u64 y3.next]) H rfl (by kernel_rfl) (by kernel_rfl) (by kernel_rfl) (by kernel_rfl) fun wc H => ?_
      refine rob_done (by kernel_rfl) ?_
      refine run_if (p := er_y3 = 0) (by kernel_rfl) (by kernel_rfl) (fun hc => ?_) (fun hc => ?_)
      · refine run_ld (n := 0) (t := 26) (off := 0) (v := .agg #[.slice Aqy3 y3.queue.length cqy3, .int .i64 y3.taken, .slice Aly3 y3.list.length cly3, .int .u64 y3.next]) H rfl (by kernel_rfl) (by kernel_rfl) (by kernel_rfl) ?_
        refine run_st (n := 6) (t := 26) (off := 0) (v := .agg #[.slice Aqy3 y3.queue.length cqy3, .int .i64 y3.taken, .slice Aly3 y3.list.length cly3, .int .u64 y3.next]) (cs' := #[.slice Aqy3 y3.queue.length cqy3, .int .i64 y3.taken, .slice Aly3 y3.list.length cly3, .int .u64 y3.next]) H rfl (by kernel_rfl) (by kernel_rfl) (by kernel_rfl) fun wc H => ?_
        have H := H.sel [6, 1, 2, 9, 10] (by decide) (L' := [Ck.blk b3 26 #[.slice Aqy3 y3.queue.length cqy3, .int .i64 y3.taken, .slice Aly3 y3.list.length cly3, .int .u64 y3.next], Ck.own bytesT 27 (.slice Aly3 y3.list.length cly3) y3.list, Ck.own delT 31 (.slice Aqy3 y3.queue.length cqy3) y3.queue, Ck.blk b2 29 #[.int .i64 ablock, .slice Am m.length cm, .int .u64 ato, .int .u64 aam], Ck.blk b1 26 #[.slice Aqx x.queue.length cqx, .int .i64 x.taken, .slice Alx x.list.length clx, .int .u64 x.next]]) rfl
        have H := H.toSl2
        refine run_at (by kernel_rfl) (next (l.length - (i + 1)) _ _ (by omega) ⟨i + 1, rfl, by omega, y3, Aqy3, cqy3, Aly3, cly3, ?_, (sm_may hy3m), (depI_post hI hy_y3 (by assumption)), H⟩)
        rw [← wrap_succ (n := i) (by omega)]
        exact env_intro (by kernel_rfl) (by kernel_rfl) (by kernel_rfl)
      · have H := H.sel [6, 7, 8, 9, 10] (by decide) (L' := [Ck.blk b3 26 #[.slice Aqy y.queue.length cqy, .int .i64 y.taken, .slice Aly y.list.length cly, .int .u64 y.next], Ck.sl bytesT y.list (.slice Aly y.list.length cly) w, Ck.sl delT y.queue (.slice Aqy y.queue.length cqy) w, Ck.blk b2 29 #[.int .i64 ablock, .slice Am m.length cm, .int .u64 ato, .int .u64 aam], Ck.blk b1 26 #[.slice Aqx x.queue.length cqx, .int .i64 x.taken, .slice Alx x.list.length clx, .int .u64 x.next]]) rfl
        refine run_at (by kernel_rfl) (next (l.length - (i + 1)) _ _ (by omega) ⟨i + 1, rfl, by omega, y, Aqy, cqy, Aly, cly, ?_, hs_y, hI, H⟩)
        rw [← wrap_succ (n := i) (by omega)]
        exact env_intro (by kernel_rfl) (by kernel_rfl) (by kernel_rfl)
  · refine run_ld (n := 0) (t := 26) (off := 0) (v := .agg #[.slice Aqy y.queue.length cqy, .int .i64 y.taken, .slice Aly y.list.length cly, .int .u64 y.next]) H rfl (by kernel_rfl) (by kernel_rfl) (by kernel_rfl) ?_
    refine run_ld (n := 3) (t := 3) (off := 0) (v := .int .i64 ablock) H rfl (by kernel_rfl) (by kernel_rfl) (by kernel_rfl) ?_
    obtain ⟨y4, er_y4, hy_y4⟩ : ∃ zz ee, y.tick (IntKind.i64.wrap ((IntKind.i64.wrap (ablock + (l.length : Int))) + 8)) = (zz, ee) := ⟨_, _, rfl⟩
    have hy4m : y4.may = true := by have h := tick_may y (IntKind.i64.wrap ((IntKind.i64.wrap (ablock + (l.length : Int))) + 8)); rw [hy_y4] at h; exact h
    have hz_y4 := may_le hy4m
    refine run_call (f := 14) (args := #[.agg #[.slice Aqy y.queue.length cqy, .int .i64 y.taken, .slice Aly y.list.length cly, .int .u64 y.next], .int .i64 (IntKind.i64.wrap ((IntKind.i64.wrap (ablock + (l.length : Int))) + 8))]) (by kernel_rfl) (by kernel_rfl) pf14 ((calls_ret (tick14_calls (inarg_sm (H.sl2 2 rfl) (H.sl2 1 rfl) hs_y) (block := (IntKind.i64.wrap ((IntKind.i64.wrap (ablock + (l.length : Int))) + 8))) (by first | rfl | assumption | exact wrap_wrap _)) hy_y4)) fun e wc ⟨vq_y4, vl_y4, he, hH⟩ => ⟨_, he, ?_⟩
    replace H := H.join hH
    clear hH
    obtain ⟨Aly4, cly4, rfl⟩ : ∃ A c, vl_y4 = .slice A y4.list.length c := (H.sl 0 rfl).form
    obtain ⟨Aqy4, cqy4, rfl⟩ : ∃ A c, vq_y4 = .slice A y4.queue.length c := (H.sl 1 rfl).form
    refine run_alloc (t := 26) (v := .agg #[.slice none 0 0, .int .i64 0, .slice none 0 0, .int .u64 0]) H (by kernel_rfl) (by kernel_rfl) fun b7 wc H => ?_
    refine run_st (n := 0) (t := 26) (off := 0) (v := .agg #[.slice Aqy4 y4.queue.length cqy4, .int .i64 y4.taken, .slice Aly4 y4.list.length cly4, .int .u64 y4.next]) (cs' := #[.slice Aqy4 y4.queue.length cqy4, .int .i64 y4.taken, .slice Aly4 y4.list.length cly4, .int .u64 y4.next]) H rfl (by kernel_rfl) (by kernel_rfl) (by kernel_rfl) fun wc H => ?_
    refine run_cut (fun a w' => ∃ y, ∃ Aqy, ∃ cqy, ∃ Aly, ∃ cly, (∃ u, a = env 146 u [(3, .pointer (some ⟨b1, 0, none⟩)), (7, .pointer (some ⟨b3, 0, none⟩))]) ∧ (SmallIn y) ∧ (DepI x y) ∧ HS w w' [Ck.blk b3 26 #[.slice Aqy y.queue.length cqy, .int .i64 y.taken, .slice Aly y.list.length cly, .int .u64 y.next], Ck.sl bytesT y.list (.slice Aly y.list.length cly) w, Ck.sl delT y.queue (.slice Aqy y.queue.length cqy) w, Ck.blk b2 29 #[.int .i64 ablock, .slice Am m.length cm, .int .u64 ato, .int .u64 aam], Ck.blk b1 26 #[.slice Aqx x.queue.length cqx, .int .i64 x.taken, .slice Alx x.list.length clx, .int .u64 x.next]]) ?_ ?_
    · refine run_if (p := er_y4 = 0) (by kernel_rfl) (by kernel_rfl) (fun hc => ?_) (fun hc => ?_)
      · refine run_ld (n := 0) (t := 26) (off := 0) (v := .agg #[.slice Aqy4 y4.queue.length cqy4, .int .i64 y4.taken, .slice Aly4 y4.list.length cly4, .int .u64 y4.next]) H rfl (by kernel_rfl) (by kernel_rfl) (by kernel_rfl) ?_
        refine run_st (n := 3) (t := 26) (off := 0) (v := .agg #[.slice Aqy4 y4.queue.length cqy4, .int .i64 y4.taken, .slice Aly4 y4.list.length cly4, .int .u64 y4.next]) (cs' := #[.slice Aqy4 y4.queue.length cqy4, .int .i64 y4.taken, .slice Aly4 y4.list.length cly4, .int .u64 y4.next]) H rfl (by kernel_rfl) (by kernel_rfl) (by kernel_rfl) fun wc H => ?_
        have H := H.sel [3, 1, 2, 6, 7] (by decide) (L' := [Ck.blk b3 26 #[.slice Aqy4 y4.queue.length cqy4, .int .i64 y4.taken, .slice Aly4 y4.list.length cly4, .int .u64 y4.next], Ck.own bytesT 27 (.slice Aly4 y4.list.length cly4) y4.list, Ck.own delT 31 (.slice Aqy4 y4.queue.length cqy4) y4.queue, Ck.blk b2 29 #[.int .i64 ablock, .slice Am m.length cm, .int .u64 ato, .int .u64 aam], Ck.blk b1 26 #[.slice Aqx x.queue.length cqx, .int .i64 x.taken, .slice Alx x.list.length clx, .int .u64 x.next]]) rfl
        have H := H.toSl2
        exact run_cutEnd (by kernel_rfl) ⟨y4, Aqy4, cqy4, Aly4, cly4, env_intro (by kernel_rfl) (by kernel_rfl) (by kernel_rfl), (sm_may hy4m), (depI_tick hI hy_y4 (by assumption)), H⟩
        -- H : Ck.blk b7 26 #[.slice Aqy4 y4.queue.length cqy4, .int .i64 y4.taken, .slice Aly4 y4.list.length cly4, .int .u64 y4.next], Ck.own bytesT 27 (.slice Aly4 y4.list.length cly4) y4.list, Ck.own delT 31 (.slice Aqy4 y4.queue.length cqy4) y4.queue, Ck.blk b3 26 #[.slice Aqy4 y4.queue.length cqy4, .int .i64 y4.taken, .slice Aly4 y4.list.length cly4, .int .u64 y4.next], Ck.sl bytesT y.list (.slice Aly y.list.length cly) w, Ck.sl delT y.queue (.slice Aqy y.queue.length cqy) w, Ck.blk b2 29 #[.int .i64 ablock, .slice Am m.length cm, .int .u64 ato, .int .u64 aam], Ck.blk b1 26 #[.slice Aqx x.queue.length cqx, .int .i64 x.taken, .slice Alx x.list.length clx, .int .u64 x.next]
      · have H := H.sel [3, 4, 5, 6, 7] (by decide) (L' := [Ck.blk b3 26 #[.slice Aqy y.queue.length cqy, .int .i64 y.taken, .slice Aly y.list.length cly, .int .u64 y.next], Ck.sl bytesT y.list (.slice Aly y.list.length cly) w, Ck.sl delT y.queue (.slice Aqy y.queue.length cqy) w, Ck.blk b2 29 #[.int .i64 ablock, .slice Am m.length cm, .int .u64 ato, .int .u64 aam], Ck.blk b1 26 #[.slice Aqx x.queue.length cqx, .int .i64 x.taken, .slice Alx x.list.length clx, .int .u64 x.next]]) rfl
        exact run_cutEnd (by kernel_rfl) ⟨y, Aqy, cqy, Aly, cly, env_intro (by kernel_rfl) (by kernel_rfl) (by kernel_rfl), hs_y, hI, H⟩
        -- H : Ck.blk b7 26 #[.slice Aqy4 y4.queue.length cqy4, .int .i64 y4.taken, .slice Aly4 y4.list.length cly4, .int .u64 y4.next], Ck.own bytesT 27 (.slice Aly4 y4.list.length cly4) y4.list, Ck.own delT 31 (.slice Aqy4 y4.queue.length cqy4) y4.queue, Ck.blk b3 26 #[.slice Aqy y.queue.length cqy, .int .i64 y.taken, .slice Aly y.list.length cly, .int .u64 y.next], Ck.sl bytesT y.list (.slice Aly y.list.length cly) w, Ck.sl delT y.queue (.slice Aqy y.queue.length cqy) w, Ck.blk b2 29 #[.int .i64 ablock, .slice Am m.length cm, .int .u64 ato, .int .u64 aam], Ck.blk b1 26 #[.slice Aqx x.queue.length cqx, .int .i64 x.taken, .slice Alx x.list.length clx, .int .u64 x.next]
    · clear H
      rintro a w' ⟨y, Aqy, cqy, Aly, cly, ⟨u, rfl⟩, hs_y, hI, H⟩
      have hz1_y : y.list.length ≤ 137438953472 := hs_y.nl
      refine run_loop (fun mm a w' => ∃ i2, mm = x.list.length - i2 ∧ i2 ≤ x.list.length ∧ ∃ c2 : Nat, (∃ u, a = env 146 u [(3, .pointer (some ⟨b1, 0, none⟩)), (7, .pointer (some ⟨b3, 0, none⟩)), (15, .int .i64 (c2 : Int)), (16, .int .i64 0), (17, .int .i64 (i2 : Int))]) ∧ (c2 = cnt (x.list.take i2)) ∧ (c2 ≤ 0 + i2) ∧ HS w w' [Ck.blk b3 26 #[.slice Aqy y.queue.length cqy, .int .i64 y.taken, .slice Aly y.list.length cly, .int .u64 y.next], Ck.sl bytesT y.list (.slice Aly y.list.length cly) w, Ck.sl delT y.queue (.slice Aqy y.queue.length cqy) w, Ck.blk b2 29 #[.int .i64 ablock, .slice Am m.length cm, .int .u64 ato, .int .u64 aam], Ck.blk b1 26 #[.slice Aqx x.queue.length cqx, .int .i64 x.taken, .slice Alx x.list.length clx, .int .u64 x.next]]) _ (by kernel_rfl) ⟨0, rfl, Nat.zero_le _, 0, env_intro (by kernel_rfl) (by kernel_rfl) (by kernel_rfl), rfl, by omega, H⟩ ?_
      clear H
      rintro mm a w' ⟨i2, rfl, hi, c2, ⟨u, rfl⟩, h_c2, b_c2, H⟩ next
      refine run_ld (n := 4) (t := 23) (off := 2) (v := .slice Alx x.list.length clx) H rfl (by kernel_rfl) (by kernel_rfl) (by kernel_rfl) ?_
      refine run_if (p := (i2 : Int) < (x.list.length : Int)) (by kernel_rfl) (by kernel_rfl) (fun hc => ?_) (fun hc => ?_)
      · refine run_ld (n := 4) (t := 23) (off := 2) (v := .slice Alx x.list.length clx) H rfl (by kernel_rfl) (by kernel_rfl) (by kernel_rfl) ?_
        obtain ⟨x2, hg_x2⟩ : ∃ z, (x.list)[i2]? = some z := ⟨_, List.getElem?_eq_getElem (by omega)⟩
        have hd_x2 := drop_cons hg_x2
        refine run_elem (t := 23) (e := 27) (k := .i64) hx.l hg_x2 (by kernel_rfl) (by kernel_rfl) (by kernel_rfl) (by kernel_rfl) fun be4 oe4 _ hK_x2 hc4 => ?_
        obtain ⟨vx2, rfl, hx2⟩ := bytesT_open hK_x2
        obtain ⟨Ax2, cx2, rfl⟩ := hx2.form
        refine run_eld (t := 27) (f := 0) (v := .slice Ax2 x2.length cx2) hc4 H.below rfl rfl (by kernel_rfl) (by kernel_rfl) (by kernel_rfl) ?_
        refine run_call (f := 12) (args := #[.slice Ax2 x2.length cx2]) (by kernel_rfl) (by kernel_rfl) pf12 (brings12_calls (hx2.ext H.below)) fun e wc ⟨he, hE⟩ => ⟨_, he, ?_⟩
        replace H := H.ext hE
        refine run_if (p := Brings x2) (by kernel_rfl) (by kernel_rfl) (fun hc => ?_) (fun hc => ?_)
        · refine run_at (by kernel_rfl) (next (x.list.length - (i2 + 1)) _ _ (by omega) ⟨i2 + 1, rfl, by omega, c2 + 1, ?_, by rw [h_c2, cnt_yes hg_x2 hc], by omega, H⟩)
          rw [← wrap_succ (n := i2) (by omega), ← wrap_succ (n := c2) (by omega)]
          exact env_intro (by kernel_rfl) (by kernel_rfl) (by kernel_rfl)
        · refine run_at (by kernel_rfl) (next (x.list.length - (i2 + 1)) _ _ (by omega) ⟨i2 + 1, rfl, by omega, c2, ?_, by rw [h_c2, cnt_no hg_x2 hc], by omega, H⟩)
          rw [← wrap_succ (n := i2) (by omega)]
          exact env_intro (by kernel_rfl) (by kernel_rfl) (by kernel_rfl)
      · refine run_ld (n := 4) (t := 3) (off := 1) (v := .int .i64 x.taken) H rfl (by kernel_rfl) (by kernel_rfl) (by kernel_rfl) ?_
        refine run_loop (fun mm a w' => ∃ i3, mm = x.queue.length - i3 ∧ i3 ≤ x.queue.length ∧ ∃ j, ∃ c3 : Nat, (∃ u, a = env 146 u [(3, .pointer (some ⟨b1, 0, none⟩)), (7, .pointer (some ⟨b3, 0, none⟩)), (15, .int .i64 (c3 : Int)), (16, .int .i64 0), (18, .int .i64 j)]) ∧ (j = x.taken + (i3 : Int)) ∧ (i3 = 0 ∨ 0 ≤ x.taken) ∧ (c3 = cnt x.list + cntQ ((x.queue.drop x.taken.toNat).take i3)) ∧ (c3 ≤ 137438953472 + i3) ∧ HS w w' [Ck.blk b3 26 #[.slice Aqy y.queue.length cqy, .int .i64 y.taken, .slice Aly y.list.length cly, .int .u64 y.next], Ck.sl bytesT y.list (.slice Aly y.list.length cly) w, Ck.sl delT y.queue (.slice Aqy y.queue.length cqy) w, Ck.blk b2 29 #[.int .i64 ablock, .slice Am m.length cm, .int .u64 ato, .int .u64 aam], Ck.blk b1 26 #[.slice Aqx x.queue.length cqx, .int .i64 x.taken, .slice Alx x.list.length clx, .int .u64 x.next]]) _ (by kernel_rfl) ⟨0, rfl, Nat.zero_le _, x.taken, c2, env_intro (by kernel_rfl) (by kernel_rfl) (by kernel_rfl), by simp, .inl rfl, by rw [h_c2, List.take_of_length_le (by omega)]; simp [cntQ], by omega, H⟩ ?_
        clear H
        rintro mm a w' ⟨i3, rfl, hi, j, c3, ⟨u, rfl⟩, h_j, h_3, h_c3, b_c3, H⟩ next
        refine run_ask (j ≥ 0) (by kernel_rfl) (by kernel_rfl) (fun hc => ?_) (fun hc => ?_)
        · refine run_ld (n := 4) (t := 22) (off := 0) (v := .slice Aqx x.queue.length cqx) H rfl (by kernel_rfl) (by kernel_rfl) (by kernel_rfl) ?_
          refine run_if (p := j < (x.queue.length : Int)) (by kernel_rfl) (by kernel_rfl) (fun hc => ?_) (fun hc => ?_)
          · refine run_ld (n := 4) (t := 22) (off := 0) (v := .slice Aqx x.queue.length cqx) H rfl (by kernel_rfl) (by kernel_rfl) (by kernel_rfl) ?_
            obtain ⟨x3, hg_x3⟩ : ∃ z, (x.queue)[(x.taken.toNat + i3)]? = some z := ⟨_, List.getElem?_eq_getElem (by omega)⟩
            have hd_x3 := drop_cons hg_x3
            refine run_elemZ (t := 22) (e := 31) (k := .i64) (z := j) (by omega) hx.q hg_x3 (by kernel_rfl) (by kernel_rfl) (by kernel_rfl) (by kernel_rfl) fun be5 oe5 _ hK_x3 hc5 => ?_
            obtain ⟨vx3, rfl, hwx3, hx3⟩ := delT_open hK_x3
            obtain ⟨Ax3, cx3, rfl⟩ := hx3.form
            refine run_eld (t := 27) (f := 1) (v := .slice Ax3 x3.msg.length cx3) hc5 H.below rfl rfl (by kernel_rfl) (by kernel_rfl) (by kernel_rfl) ?_
            refine run_call (f := 12) (args := #[.slice Ax3 x3.msg.length cx3]) (by kernel_rfl) (by kernel_rfl) pf12 (brings12_calls (hx3.ext H.below)) fun e wc ⟨he, hE⟩ => ⟨_, he, ?_⟩
            replace H := H.ext hE
            refine run_if (p := Brings x3.msg) (by kernel_rfl) (by kernel_rfl) (fun hc => ?_) (fun hc => ?_)
            · refine run_at (by kernel_rfl) (next (x.queue.length - (i3 + 1)) _ _ (by omega) ⟨i3 + 1, rfl, by omega, IntKind.i64.wrap (j + 1), c3 + 1, ?_, by rw [i64_of (by omega) (by omega)]; omega, by omega, by rw [h_c3]; exact cntQ_yes hg_x3 hc, by omega, H⟩)
              rw [← wrap_succ (n := c3) (by omega)]
              exact env_intro (by kernel_rfl) (by kernel_rfl) (by kernel_rfl)
            · refine run_at (by kernel_rfl) (next (x.queue.length - (i3 + 1)) _ _ (by omega) ⟨i3 + 1, rfl, by omega, IntKind.i64.wrap (j + 1), c3, ?_, by rw [i64_of (by omega) (by omega)]; omega, by omega, by rw [h_c3]; exact cntQ_no hg_x3 hc, by omega, H⟩)
              exact env_intro (by kernel_rfl) (by kernel_rfl) (by kernel_rfl)
          · refine run_loop (fun mm a w' => ∃ i4, mm = y.list.length - i4 ∧ i4 ≤ y.list.length ∧ ∃ c4 : Nat, (∃ u, a = env 146 u [(7, .pointer (some ⟨b3, 0, none⟩)), (15, .int .i64 (c3 : Int)), (16, .int .i64 (c4 : Int)), (19, .int .i64 (i4 : Int))]) ∧ (c4 = cnt (y.list.take i4)) ∧ (c4 ≤ 0 + i4) ∧ HS w w' [Ck.blk b3 26 #[.slice Aqy y.queue.length cqy, .int .i64 y.taken, .slice Aly y.list.length cly, .int .u64 y.next], Ck.sl bytesT y.list (.slice Aly y.list.length cly) w, Ck.sl delT y.queue (.slice Aqy y.queue.length cqy) w, Ck.blk b2 29 #[.int .i64 ablock, .slice Am m.length cm, .int .u64 ato, .int .u64 aam], Ck.blk b1 26 #[.slice Aqx x.queue.length cqx, .int .i64 x.taken, .slice Alx x.list.length clx, .int .u64 x.next]]) _ (by kernel_rfl) ⟨0, rfl, Nat.zero_le _, 0, env_intro (by kernel_rfl) (by kernel_rfl) (by kernel_rfl), rfl, by omega, H⟩ ?_
            clear H
            rintro mm a w' ⟨i4, rfl, hi, c4, ⟨u, rfl⟩, h_c4, b_c4, H⟩ next
            refine run_ld (n := 0) (t := 23) (off := 2) (v := .slice Aly y.list.length cly) H rfl (by kernel_rfl) (by kernel_rfl) (by kernel_rfl) ?_
            refine run_if (p := (i4 : Int) < (y.list.length : Int)) (by kernel_rfl) (by kernel_rfl) (fun hc => ?_) (fun hc => ?_)
            · refine run_ld (n := 0) (t := 23) (off := 2) (v := .slice Aly y.list.length cly) H rfl (by kernel_rfl) (by kernel_rfl) (by kernel_rfl) ?_
              obtain ⟨x4, hg_x4⟩ : ∃ z, (y.list)[i4]? = some z := ⟨_, List.getElem?_eq_getElem (by omega)⟩
              have hd_x4 := drop_cons hg_x4
              refine run_elem (t := 23) (e := 27) (k := .i64) (H.sl2 1 rfl) hg_x4 (by kernel_rfl) (by kernel_rfl) (by kernel_rfl) (by kernel_rfl) fun be6 oe6 _ hK_x4 hc6 => ?_
              obtain ⟨vx4, rfl, hx4⟩ := bytesT_open hK_x4
              obtain ⟨Ax4, cx4, rfl⟩ := hx4.form
              refine run_eld (t := 27) (f := 0) (v := .slice Ax4 x4.length cx4) hc6 (Ext.refl _) rfl rfl (by kernel_rfl) (by kernel_rfl) (by kernel_rfl) ?_
              refine run_call (f := 12) (args := #[.slice Ax4 x4.length cx4]) (by kernel_rfl) (by kernel_rfl) pf12 (brings12_calls hx4) fun e wc ⟨he, hE⟩ => ⟨_, he, ?_⟩
              replace H := H.ext hE
              refine run_if (p := Brings x4) (by kernel_rfl) (by kernel_rfl) (fun hc => ?_) (fun hc => ?_)
              · refine run_at (by kernel_rfl) (next (y.list.length - (i4 + 1)) _ _ (by omega) ⟨i4 + 1, rfl, by omega, c4 + 1, ?_, by rw [h_c4, cnt_yes hg_x4 hc], by omega, H⟩)
                rw [← wrap_succ (n := i4) (by omega), ← wrap_succ (n := c4) (by omega)]
                exact env_intro (by kernel_rfl) (by kernel_rfl) (by kernel_rfl)
              · refine run_at (by kernel_rfl) (next (y.list.length - (i4 + 1)) _ _ (by omega) ⟨i4 + 1, rfl, by omega, c4, ?_, by rw [h_c4, cnt_no hg_x4 hc], by omega, H⟩)
                rw [← wrap_succ (n := i4) (by omega)]
                exact env_intro (by kernel_rfl) (by kernel_rfl) (by kernel_rfl)
            · refine run_call (f := 17) (args := #[.agg (msgA depM)]) (by kernel_rfl) (by kernel_rfl) pf17 (write17_calls depM_ok _) fun e wc ⟨bw, erw, ⟨vw, he, hH⟩, hw⟩ => ⟨_, he, ?_⟩
              replace H := H.join hH
              clear hH
              obtain ⟨rfl, rfl⟩ := (hw rfl).1 depM_dep
              obtain ⟨Aw, cw, rfl⟩ : ∃ A c, vw = .slice A (writeP depM).length c := (H.sl 0 rfl).form
              obtain ⟨y5, er_y5, hy_y5⟩ : ∃ zz ee, Inbox.zero.enq 0 (writeP depM) = (zz, ee) := ⟨_, _, rfl⟩
              have hy5m : y5.may = true := by have h := enq_may Inbox.zero 0 (writeP depM); rw [hy_y5] at h; exact h
              have hz_y5 := may_le hy5m
              refine run_call (f := 10) (args := #[.agg #[.slice none 0 0, .int .i64 0, .slice none 0 0, .int .u64 0], .int .i64 0, .slice Aw (writeP depM).length cw]) (by kernel_rfl) (by kernel_rfl) pf10 ((calls_ret (enq10_calls inarg_zero (block := 0) (by first | rfl | assumption | exact wrap_wrap _) (H.sl 0 rfl) (by first | assumption | exact nml _ (List.mem_of_getElem? (by assumption)) | (show _ ≤ 137438953472; decide) | (unfold small; first | omega | (rw [writeP_len]; decide)))) hy_y5)) fun e wc ⟨vq_y5, vl_y5, he, hH⟩ => ⟨_, he, ?_⟩
              replace H := H.join hH
              clear hH
              obtain ⟨Aly5, cly5, rfl⟩ : ∃ A c, vl_y5 = .slice A y5.list.length c := (H.sl 0 rfl).form
              obtain ⟨Aqy5, cqy5, rfl⟩ : ∃ A c, vq_y5 = .slice A y5.queue.length c := (H.sl 1 rfl).form
              refine run_alloc (t := 26) (v := .agg #[.slice none 0 0, .int .i64 0, .slice none 0 0, .int .u64 0]) H (by kernel_rfl) (by kernel_rfl) fun b8 wc H => ?_
              refine run_st (n := 0) (t := 26) (off := 0) (v := .agg #[.slice Aqy5 y5.queue.length cqy5, .int .i64 y5.taken, .slice Aly5 y5.list.length cly5, .int .u64 y5.next]) (cs' := #[.slice Aqy5 y5.queue.length cqy5, .int .i64 y5.taken, .slice Aly5 y5.list.length cly5, .int .u64 y5.next]) H rfl (by kernel_rfl) (by kernel_rfl) (by kernel_rfl) fun wc H => ?_
              refine run_call (f := 9) (args := #[]) (by kernel_rfl) (by kernel_rfl) pf9 (anchored9_calls _) fun e wc ⟨he, hE⟩ => ⟨_, he, ?_⟩
              replace H := H.ext hE
              refine run_lit (.bool true) (by kernel_rfl) (by kernel_rfl) ?_
              refine run_ask ((c4 : Int) ≤ (c3 : Int)) (by kernel_rfl) (by kernel_rfl) (fun hc => ?_) (fun hc => ?_)
              · have hM : true = decide (er_y5 = 2) := (decide_eq_true (enq_brings depM_brings hy_y5)).symm
                exact run_ret (v := .bool (decide (er_y5 = 2))) (by kernel_rfl) (by kernel_rfl) (by kernel_rfl) (⟨by rw [hM], H.below⟩)
              · exfalso
                exact hc (dep_end hI h_c3 h_c4 (by omega) (by omega))
        · refine run_cond (t := false) (by kernel_rfl) (by kernel_rfl) (fun h => by cases h) (fun _ => ?_)
          refine run_loop (fun mm a w' => ∃ i4, mm = y.list.length - i4 ∧ i4 ≤ y.list.length ∧ ∃ c4 : Nat, (∃ u, a = env 146 u [(7, .pointer (some ⟨b3, 0, none⟩)), (15, .int .i64 (c3 : Int)), (16, .int .i64 (c4 : Int)), (19, .int .i64 (i4 : Int))]) ∧ (c4 = cnt (y.list.take i4)) ∧ (c4 ≤ 0 + i4) ∧ HS w w' [Ck.blk b3 26 #[.slice Aqy y.queue.length cqy, .int .i64 y.taken, .slice Aly y.list.length cly, .int .u64 y.next], Ck.sl bytesT y.list (.slice Aly y.list.length cly) w, Ck.sl delT y.queue (.slice Aqy y.queue.length cqy) w, Ck.blk b2 29 #[.int .i64 ablock, .slice Am m.length cm, .int .u64 ato, .int .u64 aam], Ck.blk b1 26 #[.slice Aqx x.queue.length cqx, .int .i64 x.taken, .slice Alx x.list.length clx, .int .u64 x.next]]) _ (by kernel_rfl) ⟨0, rfl, Nat.zero_le _, 0, env_intro (by kernel_rfl) (by kernel_rfl) (by kernel_rfl), rfl, by omega, H⟩ ?_
          clear H
          rintro mm a w' ⟨i4, rfl, hi, c4, ⟨u, rfl⟩, h_c4, b_c4, H⟩ next
          refine run_ld (n := 0) (t := 23) (off := 2) (v := .slice Aly y.list.length cly) H rfl (by kernel_rfl) (by kernel_rfl) (by kernel_rfl) ?_
          refine run_if (p := (i4 : Int) < (y.list.length : Int)) (by kernel_rfl) (by kernel_rfl) (fun hc => ?_) (fun hc => ?_)
          · refine run_ld (n := 0) (t := 23) (off := 2) (v := .slice Aly y.list.length cly) H rfl (by kernel_rfl) (by kernel_rfl) (by kernel_rfl) ?_
            obtain ⟨x5, hg_x5⟩ : ∃ z, (y.list)[i4]? = some z := ⟨_, List.getElem?_eq_getElem (by omega)⟩
            have hd_x5 := drop_cons hg_x5
            refine run_elem (t := 23) (e := 27) (k := .i64) (H.sl2 1 rfl) hg_x5 (by kernel_rfl) (by kernel_rfl) (by kernel_rfl) (by kernel_rfl) fun be7 oe7 _ hK_x5 hc7 => ?_
            obtain ⟨vx5, rfl, hx5⟩ := bytesT_open hK_x5
            obtain ⟨Ax5, cx5, rfl⟩ := hx5.form
            refine run_eld (t := 27) (f := 0) (v := .slice Ax5 x5.length cx5) hc7 (Ext.refl _) rfl rfl (by kernel_rfl) (by kernel_rfl) (by kernel_rfl) ?_
            refine run_call (f := 12) (args := #[.slice Ax5 x5.length cx5]) (by kernel_rfl) (by kernel_rfl) pf12 (brings12_calls hx5) fun e wc ⟨he, hE⟩ => ⟨_, he, ?_⟩
            replace H := H.ext hE
            refine run_if (p := Brings x5) (by kernel_rfl) (by kernel_rfl) (fun hc => ?_) (fun hc => ?_)
            · refine run_at (by kernel_rfl) (next (y.list.length - (i4 + 1)) _ _ (by omega) ⟨i4 + 1, rfl, by omega, c4 + 1, ?_, by rw [h_c4, cnt_yes hg_x5 hc], by omega, H⟩)
              rw [← wrap_succ (n := i4) (by omega), ← wrap_succ (n := c4) (by omega)]
              exact env_intro (by kernel_rfl) (by kernel_rfl) (by kernel_rfl)
            · refine run_at (by kernel_rfl) (next (y.list.length - (i4 + 1)) _ _ (by omega) ⟨i4 + 1, rfl, by omega, c4, ?_, by rw [h_c4, cnt_no hg_x5 hc], by omega, H⟩)
              rw [← wrap_succ (n := i4) (by omega)]
              exact env_intro (by kernel_rfl) (by kernel_rfl) (by kernel_rfl)
          · refine run_call (f := 17) (args := #[.agg (msgA depM)]) (by kernel_rfl) (by kernel_rfl) pf17 (write17_calls depM_ok _) fun e wc ⟨bw, erw, ⟨vw, he, hH⟩, hw⟩ => ⟨_, he, ?_⟩
            replace H := H.join hH
            clear hH
            obtain ⟨rfl, rfl⟩ := (hw rfl).1 depM_dep
            obtain ⟨Aw, cw, rfl⟩ : ∃ A c, vw = .slice A (writeP depM).length c := (H.sl 0 rfl).form
            obtain ⟨y6, er_y6, hy_y6⟩ : ∃ zz ee, Inbox.zero.enq 0 (writeP depM) = (zz, ee) := ⟨_, _, rfl⟩
            have hy6m : y6.may = true := by have h := enq_may Inbox.zero 0 (writeP depM); rw [hy_y6] at h; exact h
            have hz_y6 := may_le hy6m
            refine run_call (f := 10) (args := #[.agg #[.slice none 0 0, .int .i64 0, .slice none 0 0, .int .u64 0], .int .i64 0, .slice Aw (writeP depM).length cw]) (by kernel_rfl) (by kernel_rfl) pf10 ((calls_ret (enq10_calls inarg_zero (block := 0) (by first | rfl | assumption | exact wrap_wrap _) (H.sl 0 rfl) (by first | assumption | exact nml _ (List.mem_of_getElem? (by assumption)) | (show _ ≤ 137438953472; decide) | (unfold small; first | omega | (rw [writeP_len]; decide)))) hy_y6)) fun e wc ⟨vq_y6, vl_y6, he, hH⟩ => ⟨_, he, ?_⟩
            replace H := H.join hH
            clear hH
            obtain ⟨Aly6, cly6, rfl⟩ : ∃ A c, vl_y6 = .slice A y6.list.length c := (H.sl 0 rfl).form
            obtain ⟨Aqy6, cqy6, rfl⟩ : ∃ A c, vq_y6 = .slice A y6.queue.length c := (H.sl 1 rfl).form
            refine run_alloc (t := 26) (v := .agg #[.slice none 0 0, .int .i64 0, .slice none 0 0, .int .u64 0]) H (by kernel_rfl) (by kernel_rfl) fun b9 wc H => ?_
            refine run_st (n := 0) (t := 26) (off := 0) (v := .agg #[.slice Aqy6 y6.queue.length cqy6, .int .i64 y6.taken, .slice Aly6 y6.list.length cly6, .int .u64 y6.next]) (cs' := #[.slice Aqy6 y6.queue.length cqy6, .int .i64 y6.taken, .slice Aly6 y6.list.length cly6, .int .u64 y6.next]) H rfl (by kernel_rfl) (by kernel_rfl) (by kernel_rfl) fun wc H => ?_
            refine run_call (f := 9) (args := #[]) (by kernel_rfl) (by kernel_rfl) pf9 (anchored9_calls _) fun e wc ⟨he, hE⟩ => ⟨_, he, ?_⟩
            replace H := H.ext hE
            refine run_lit (.bool true) (by kernel_rfl) (by kernel_rfl) ?_
            refine run_ask ((c4 : Int) ≤ (c3 : Int)) (by kernel_rfl) (by kernel_rfl) (fun hc => ?_) (fun hc => ?_)
            · have hM : true = decide (er_y6 = 2) := (decide_eq_true (enq_brings depM_brings hy_y6)).symm
              exact run_ret (v := .bool (decide (er_y6 = 2))) (by kernel_rfl) (by kernel_rfl) (by kernel_rfl) (⟨by rw [hM], H.below⟩)
            · exfalso
              exact hc (dep_end hI h_c3 h_c4 (by omega) (by omega))
end Go.Proofs.Ythmajhdemooecaa
