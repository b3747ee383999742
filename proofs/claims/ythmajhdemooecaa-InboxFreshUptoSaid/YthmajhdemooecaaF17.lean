/- The walks of the document's plain functions: Same, has, short, Lists, May. -/
import Derived.Test.YthmajhdemooecaaF16
import Derived.Test.YthmajhdemooecaaXE
namespace Go.Proofs.Ythmajhdemooecaa
open Go.PM Go.RowKit
set_option linter.unusedVariables false
set_option linter.unusedSimpArgs false
set_option linter.unnecessarySimpa false
attribute [local irreducible] adv advD advF fuel

theorem pf23 : plainFn Try.prog 23 = true := by kernel_rfl
theorem pf16 : plainFn Try.prog 16 = true := by kernel_rfl
theorem pf43 : plainFn Try.prog 43 = true := by kernel_rfl
theorem pf15 : plainFn Try.prog 15 = true := by kernel_rfl
theorem pf11 : plainFn Try.prog 11 = true := by kernel_rfl

theorem drop_cons {α : Type} {l : List α} {i : Nat} {x : α} (h : l[i]? = some x) : l.drop i = x :: l.drop (i + 1) := by
  obtain ⟨hlt, rfl⟩ := List.getElem?_eq_some_iff.1 h
  exact List.drop_eq_getElem_cons hlt
def shortL (l : List Bytes) : Bool := l.all fun m => decide (m.length ≤ 65536)

theorem same23_calls {x y : Bytes} {vx vy : Value} {w : World} (hx : Sl Ty.u8 w Any x vx) (hy : Sl Ty.u8 w Any y vy) :
    Calls Try.prog 23 #[vx, vy] w fun e w' => e = .returned (.bool (decide (x = y))) ∧ Ext w w' := by
  have H := HS.refl w
  obtain ⟨Ax, cx, rfl⟩ := hx.form
  obtain ⟨Ay, cy, rfl⟩ := hy.form
  refine calls_run Try.func23 (by kernel_rfl) ?_
  refine run_val (v := .string (strOf x)) (by kernel_rfl) (op_toStr (s := 27) (d := 9) (e := 5) (by kernel_rfl) (by kernel_rfl) (by kernel_rfl) (by kernel_rfl) (hx.ext H.below)) ?_
  refine run_val (v := .string (strOf y)) (by kernel_rfl) (op_toStr (s := 27) (d := 9) (e := 5) (by kernel_rfl) (by kernel_rfl) (by kernel_rfl) (by kernel_rfl) (hy.ext H.below)) ?_
  have hM : decide (x = y) = ((strOf x).toList == (strOf y).toList) := by rw [strOf_eq]
  exact run_ret (v := .bool ((strOf x).toList == (strOf y).toList)) (by kernel_rfl) (by kernel_rfl) (by kernel_rfl) (⟨by rw [hM], H.below⟩)

theorem has16_calls {l : List Bytes} {m : Bytes} {vl vm : Value} {w : World} (hl : Sl bytesT w Any l vl) (hm : Sl Ty.u8 w Any m vm) (hn : small l.length) :
    Calls Try.prog 16 #[vl, vm] w fun e w' => e = .returned (.bool (decide (m ∈ l))) ∧ Ext w w' := by
  have H := HS.refl w
  unfold small at hn
  obtain ⟨Al, cl, rfl⟩ := hl.form
  obtain ⟨Am, cm, rfl⟩ := hm.form
  refine calls_run Try.func16 (by kernel_rfl) ?_
  refine run_loop (fun mm a w' => ∃ i, mm = l.length - i ∧ i ≤ l.length ∧ (∃ u, a = env 18 u [(0, .slice Al l.length cl), (1, .slice Am m.length cm), (5, .int .i64 (i : Int))]) ∧ (decide (m ∈ l) = decide (m ∈ l.drop i)) ∧ HS w w' []) _ (by kernel_rfl) ⟨0, rfl, Nat.zero_le _, env_intro (by kernel_rfl) (by kernel_rfl) (by kernel_rfl), by simp, H⟩ ?_
  clear H
  rintro mm a w' ⟨i, rfl, hi, ⟨u, rfl⟩, hM0, H⟩ next
  refine run_if (p := (i : Int) < (l.length : Int)) (by kernel_rfl) (by kernel_rfl) (fun hc => ?_) (fun hc => ?_)
  · obtain ⟨x1, hg_x1⟩ : ∃ z, (l)[i]? = some z := ⟨_, List.getElem?_eq_getElem (by omega)⟩
    have hd_x1 := drop_cons hg_x1
    refine run_elem (t := 23) (e := 27) (k := .i64) hl hg_x1 (by kernel_rfl) (by kernel_rfl) (by kernel_rfl) (by kernel_rfl) fun be1 oe1 _ hK_x1 hc1 => ?_
    obtain ⟨vx1, rfl, hx1⟩ := bytesT_open hK_x1
    obtain ⟨Ax1, cx1, rfl⟩ := hx1.form
    refine run_eld (t := 27) (f := 0) (v := .slice Ax1 x1.length cx1) hc1 H.below rfl rfl (by kernel_rfl) (by kernel_rfl) (by kernel_rfl) ?_
    refine run_call (f := 23) (args := #[.slice Ax1 x1.length cx1, .slice Am m.length cm]) (by kernel_rfl) (by kernel_rfl) pf23 (same23_calls (hx1.ext H.below) (hm.ext H.below)) fun e wc ⟨he, hE⟩ => ⟨_, he, ?_⟩
    replace H := H.ext hE
    refine run_if (p := x1 = m) (by kernel_rfl) (by kernel_rfl) (fun hc => ?_) (fun hc => ?_)
    · have hM : decide (m ∈ l) = true := by rw [hM0]; first | (rw [hd_x1]; simp [hc]; done) | (rw [List.drop_eq_nil_of_le (by omega)]; simp)
      exact run_ret (v := .bool true) (by kernel_rfl) (by kernel_rfl) (by kernel_rfl) (⟨by rw [hM], H.below⟩)
    · refine run_at (by kernel_rfl) (next (l.length - (i + 1)) _ _ (by omega) ⟨i + 1, rfl, by omega, ?_, by rw [hM0, hd_x1]; simp [Ne.symm hc], ?_⟩)
      · rw [← wrap_succ (n := i) (by omega)]
        exact env_intro (by kernel_rfl) (by kernel_rfl) (by kernel_rfl)
      · exact H
  · have hM : decide (m ∈ l) = false := by rw [hM0]; first | (rw [hd_x1]; simp [hc]; done) | (rw [List.drop_eq_nil_of_le (by omega)]; simp)
    exact run_ret (v := .bool false) (by kernel_rfl) (by kernel_rfl) (by kernel_rfl) (⟨by rw [hM], H.below⟩)

theorem short43_calls {l : List Bytes} {vl : Value} {w : World} (hl : Sl bytesT w Any l vl) (hn : small l.length) :
    Calls Try.prog 43 #[vl] w fun e w' => e = .returned (.bool (shortL l)) ∧ Ext w w' := by
  have H := HS.refl w
  unfold small at hn
  obtain ⟨Al, cl, rfl⟩ := hl.form
  refine calls_run Try.func43 (by kernel_rfl) ?_
  refine run_loop (fun mm a w' => ∃ i, mm = l.length - i ∧ i ≤ l.length ∧ (∃ u, a = env 16 u [(0, .slice Al l.length cl), (3, .int .i64 (i : Int))]) ∧ (shortL l = shortL (l.drop i)) ∧ HS w w' []) _ (by kernel_rfl) ⟨0, rfl, Nat.zero_le _, env_intro (by kernel_rfl) (by kernel_rfl) (by kernel_rfl), by simp, H⟩ ?_
  clear H
  rintro mm a w' ⟨i, rfl, hi, ⟨u, rfl⟩, hM0, H⟩ next
  refine run_if (p := (i : Int) < (l.length : Int)) (by kernel_rfl) (by kernel_rfl) (fun hc => ?_) (fun hc => ?_)
  · obtain ⟨x1, hg_x1⟩ : ∃ z, (l)[i]? = some z := ⟨_, List.getElem?_eq_getElem (by omega)⟩
    have hd_x1 := drop_cons hg_x1
    refine run_elem (t := 23) (e := 27) (k := .i64) hl hg_x1 (by kernel_rfl) (by kernel_rfl) (by kernel_rfl) (by kernel_rfl) fun be1 oe1 _ hK_x1 hc1 => ?_
    obtain ⟨vx1, rfl, hx1⟩ := bytesT_open hK_x1
    obtain ⟨Ax1, cx1, rfl⟩ := hx1.form
    refine run_eld (t := 27) (f := 0) (v := .slice Ax1 x1.length cx1) hc1 H.below rfl rfl (by kernel_rfl) (by kernel_rfl) (by kernel_rfl) ?_
    refine run_if (p := (x1.length : Int) > 65536) (by kernel_rfl) (by kernel_rfl) (fun hc => ?_) (fun hc => ?_)
    · have hM : shortL l = false := by rw [hM0]; first | (rw [hd_x1]; simp [shortL]; omega; done) | (rw [List.drop_eq_nil_of_le (by omega)]; simp [shortL])
      exact run_ret (v := .bool false) (by kernel_rfl) (by kernel_rfl) (by kernel_rfl) (⟨by rw [hM], H.below⟩)
    · refine run_at (by kernel_rfl) (next (l.length - (i + 1)) _ _ (by omega) ⟨i + 1, rfl, by omega, ?_, by rw [hM0, hd_x1]; simp [shortL]; omega, ?_⟩)
      · rw [← wrap_succ (n := i) (by omega)]
        exact env_intro (by kernel_rfl) (by kernel_rfl) (by kernel_rfl)
      · exact H
  · have hM : shortL l = true := by rw [hM0]; first | (rw [hd_x1]; simp [shortL]; omega; done) | (rw [List.drop_eq_nil_of_le (by omega)]; simp [shortL])
    exact run_ret (v := .bool true) (by kernel_rfl) (by kernel_rfl) (by kernel_rfl) (⟨by rw [hM], H.below⟩)

theorem lists15_calls {l k : List Bytes} {vl vk : Value} {w : World} (hl : Sl bytesT w Any l vl) (hk : Sl bytesT w Any k vk) (hn : small l.length) :
    Calls Try.prog 15 #[vl, vk] w fun e w' => e = .returned (.bool (decide (l = k))) ∧ Ext w w' := by
  have H := HS.refl w
  unfold small at hn
  obtain ⟨Al, cl, rfl⟩ := hl.form
  obtain ⟨Ak, ck, rfl⟩ := hk.form
  refine calls_run Try.func15 (by kernel_rfl) ?_
  refine run_ifN (p := (l.length : Int) = (k.length : Int)) (by kernel_rfl) (by kernel_rfl) (fun hc => ?_) (fun hc => ?_)
  · have hM : decide (l = k) = false := by first | (rw [hM0, hd_x1, hd_x2]; simp [hc]; done) | (rw [hM0, List.drop_eq_nil_of_le (by omega), List.drop_eq_nil_of_le (by omega)]; simp; done) | (rw [decide_eq_false]; intro h; apply hc; rw [h])
    exact run_ret (v := .bool false) (by kernel_rfl) (by kernel_rfl) (by kernel_rfl) (⟨by rw [hM], H.below⟩)
  · refine run_loop (fun mm a w' => ∃ i, mm = l.length - i ∧ i ≤ l.length ∧ (∃ u, a = env 27 u [(0, .slice Al l.length cl), (1, .slice Ak k.length ck), (5, .int .i64 (i : Int))]) ∧ (decide (l = k) = decide (l.drop i = k.drop i)) ∧ HS w w' []) _ (by kernel_rfl) ⟨0, rfl, Nat.zero_le _, env_intro (by kernel_rfl) (by kernel_rfl) (by kernel_rfl), by simp, H⟩ ?_
    clear H
    rintro mm a w' ⟨i, rfl, hi, ⟨u, rfl⟩, hM0, H⟩ next
    refine run_if (p := (i : Int) < (l.length : Int)) (by kernel_rfl) (by kernel_rfl) (fun hc => ?_) (fun hc => ?_)
    · refine run_draw follows (by kernel_rfl) fun wD hE => ?_
      replace H := H.ext hE
      obtain ⟨x1, hg_x1⟩ : ∃ z, (l)[i]? = some z := ⟨_, List.getElem?_eq_getElem (by omega)⟩
      have hd_x1 := drop_cons hg_x1
      refine rob_elem (t := 23) (e := 27) (k := .i64) hl hg_x1 (by kernel_rfl) rfl (by kernel_rfl) (by kernel_rfl) (by kernel_rfl) fun be1 oe1 _ hK_x1 hc1 => ?_
      obtain ⟨vx1, rfl, hx1⟩ := bytesT_open hK_x1
      obtain ⟨Ax1, cx1, rfl⟩ := hx1.form
      refine rob_eld (t := 27) (f := 0) (v := .slice Ax1 x1.length cx1) hc1 H.below rfl rfl (by kernel_rfl) (by kernel_rfl) (by kernel_rfl) (by kernel_rfl) ?_
      obtain ⟨x2, hg_x2⟩ : ∃ z, (k)[i]? = some z := ⟨_, List.getElem?_eq_getElem (by omega)⟩
      have hd_x2 := drop_cons hg_x2
      refine rob_elem (t := 23) (e := 27) (k := .i64) hk hg_x2 (by kernel_rfl) rfl (by kernel_rfl) (by kernel_rfl) (by kernel_rfl) fun be2 oe2 _ hK_x2 hc2 => ?_
      obtain ⟨vx2, rfl, hx2⟩ := bytesT_open hK_x2
      obtain ⟨Ax2, cx2, rfl⟩ := hx2.form
      refine rob_eld (t := 27) (f := 0) (v := .slice Ax2 x2.length cx2) hc2 H.below rfl rfl (by kernel_rfl) (by kernel_rfl) (by kernel_rfl) (by kernel_rfl) ?_
      refine rob_call (f := 23) (args := #[.slice Ax1 x1.length cx1, .slice Ax2 x2.length cx2]) (by kernel_rfl) (by kernel_rfl) pf23 (same23_calls (hx1.ext H.below) (hx2.ext H.below)) fun e wc ⟨he, hE⟩ => ⟨_, he, .inr (hE), ?_⟩
      replace H := H.ext hE
      refine rob_done (by kernel_rfl) ?_
      refine run_ifN (p := x1 = x2) (by kernel_rfl) (by kernel_rfl) (fun hc => ?_) (fun hc => ?_)
      · have hM : decide (l = k) = false := by first | (rw [hM0, hd_x1, hd_x2]; simp [hc]; done) | (rw [hM0, List.drop_eq_nil_of_le (by omega), List.drop_eq_nil_of_le (by omega)]; simp; done) | (rw [decide_eq_false]; intro h; apply hc; rw [h])
        exact run_ret (v := .bool false) (by kernel_rfl) (by kernel_rfl) (by kernel_rfl) (⟨by rw [hM], H.below⟩)
      · refine run_at (by kernel_rfl) (next (l.length - (i + 1)) _ _ (by omega) ⟨i + 1, rfl, by omega, ?_, by rw [hM0, hd_x1, hd_x2]; simp [hc], ?_⟩)
        · rw [← wrap_succ (n := i) (by omega)]
          exact env_intro (by kernel_rfl) (by kernel_rfl) (by kernel_rfl)
        · exact H
    · have hM : decide (l = k) = true := by first | (rw [hM0, hd_x1, hd_x2]; simp [hc]; done) | (rw [hM0, List.drop_eq_nil_of_le (by omega), List.drop_eq_nil_of_le (by omega)]; simp; done) | (rw [decide_eq_false]; intro h; apply hc; rw [h])
      exact run_ret (v := .bool true) (by kernel_rfl) (by kernel_rfl) (by kernel_rfl) (⟨by rw [hM], H.below⟩)

theorem may11_calls {x : Inbox} {vq vl : Value} {w : World} (hq : Sl delT w Any x.queue vq) (hl : Sl bytesT w Any x.list vl) (hnq : small x.queue.length) (hnl : small x.list.length) :
    Calls Try.prog 11 #[.agg #[vq, .int .i64 x.taken, vl, .int .u64 x.next]] w fun e w' => e = .returned (.bool x.may) ∧ Ext w w' := by
  have H := HS.refl w
  unfold small at hnq hnl
  obtain ⟨Aqx, cqx, rfl⟩ := hq.form
  obtain ⟨Alx, clx, rfl⟩ := hl.form
  refine calls_run Try.func11 (by kernel_rfl) ?_
  refine run_box (t := 26) (v := .agg #[.slice Aqx x.queue.length cqx, .int .i64 x.taken, .slice Alx x.list.length clx, .int .u64 x.next]) H (by kernel_rfl) (by kernel_rfl) fun b1 wc H => ?_
  refine run_ld (n := 0) (t := 22) (off := 0) (v := .slice Aqx x.queue.length cqx) H rfl (by kernel_rfl) (by kernel_rfl) (by kernel_rfl) ?_
  refine run_ask ((x.queue.length : Int) > 4096) (by kernel_rfl) (by kernel_rfl) (fun hc => ?_) (fun hc => ?_)
  · refine run_lit (.bool true) (by kernel_rfl) (by kernel_rfl) ?_
    refine run_lit (.bool true) (by kernel_rfl) (by kernel_rfl) ?_
    refine run_cond (t := true) (by kernel_rfl) (by kernel_rfl) (fun _ => ?_) (fun h => by cases h)
    have hM : x.may = false := by first | (unfold Inbox.may; simp; omega) | (unfold Inbox.may; rw [hM0, hd_x1]; simp [okQ]; omega) | (unfold Inbox.may; rw [hM0, List.drop_eq_nil_of_le (by omega)]; rw [decide_eq_true (by omega), decide_eq_true (by omega), decide_eq_true (by omega), decide_eq_true (by omega)]; rfl)
    exact run_ret (v := .bool false) (by kernel_rfl) (by kernel_rfl) (by kernel_rfl) (⟨by rw [hM], H.below⟩)
    -- H : Ck.blk b1 26 #[.slice Aqx x.queue.length cqx, .int .i64 x.taken, .slice Alx x.list.length clx, .int .u64 x.next]
  · refine run_ld (n := 0) (t := 23) (off := 2) (v := .slice Alx x.list.length clx) H rfl (by kernel_rfl) (by kernel_rfl) (by kernel_rfl) ?_
    refine run_ask ((x.list.length : Int) > 4096) (by kernel_rfl) (by kernel_rfl) (fun hc => ?_) (fun hc => ?_)
    · refine run_lit (.bool true) (by kernel_rfl) (by kernel_rfl) ?_
      refine run_cond (t := true) (by kernel_rfl) (by kernel_rfl) (fun _ => ?_) (fun h => by cases h)
      have hM : x.may = false := by first | (unfold Inbox.may; simp; omega) | (unfold Inbox.may; rw [hM0, hd_x1]; simp [okQ]; omega) | (unfold Inbox.may; rw [hM0, List.drop_eq_nil_of_le (by omega)]; rw [decide_eq_true (by omega), decide_eq_true (by omega), decide_eq_true (by omega), decide_eq_true (by omega)]; rfl)
      exact run_ret (v := .bool false) (by kernel_rfl) (by kernel_rfl) (by kernel_rfl) (⟨by rw [hM], H.below⟩)
      -- H : Ck.blk b1 26 #[.slice Aqx x.queue.length cqx, .int .i64 x.taken, .slice Alx x.list.length clx, .int .u64 x.next]
    · refine run_ld (n := 0) (t := 3) (off := 1) (v := .int .i64 x.taken) H rfl (by kernel_rfl) (by kernel_rfl) (by kernel_rfl) ?_
      refine run_ask (x.taken < 0) (by kernel_rfl) (by kernel_rfl) (fun hc => ?_) (fun hc => ?_)
      · refine run_cond (t := true) (by kernel_rfl) (by kernel_rfl) (fun _ => ?_) (fun h => by cases h)
        have hM : x.may = false := by first | (unfold Inbox.may; simp; omega) | (unfold Inbox.may; rw [hM0, hd_x1]; simp [okQ]; omega) | (unfold Inbox.may; rw [hM0, List.drop_eq_nil_of_le (by omega)]; rw [decide_eq_true (by omega), decide_eq_true (by omega), decide_eq_true (by omega), decide_eq_true (by omega)]; rfl)
        exact run_ret (v := .bool false) (by kernel_rfl) (by kernel_rfl) (by kernel_rfl) (⟨by rw [hM], H.below⟩)
        -- H : Ck.blk b1 26 #[.slice Aqx x.queue.length cqx, .int .i64 x.taken, .slice Alx x.list.length clx, .int .u64 x.next]
      · refine run_ld (n := 0) (t := 3) (off := 1) (v := .int .i64 x.taken) H rfl (by kernel_rfl) (by kernel_rfl) (by kernel_rfl) ?_
        refine run_ld (n := 0) (t := 22) (off := 0) (v := .slice Aqx x.queue.length cqx) H rfl (by kernel_rfl) (by kernel_rfl) (by kernel_rfl) ?_
        refine run_if (p := x.taken > (x.queue.length : Int)) (by kernel_rfl) (by kernel_rfl) (fun hc => ?_) (fun hc => ?_)
        · have hM : x.may = false := by first | (unfold Inbox.may; simp; omega) | (unfold Inbox.may; rw [hM0, hd_x1]; simp [okQ]; omega) | (unfold Inbox.may; rw [hM0, List.drop_eq_nil_of_le (by omega)]; rw [decide_eq_true (by omega), decide_eq_true (by omega), decide_eq_true (by omega), decide_eq_true (by omega)]; rfl)
          exact run_ret (v := .bool false) (by kernel_rfl) (by kernel_rfl) (by kernel_rfl) (⟨by rw [hM], H.below⟩)
          -- H : Ck.blk b1 26 #[.slice Aqx x.queue.length cqx, .int .i64 x.taken, .slice Alx x.list.length clx, .int .u64 x.next]
        · refine run_loop (fun mm a w' => ∃ i, mm = x.queue.length - i ∧ i ≤ x.queue.length ∧ ∃ last, (∃ u, a = env 62 u [(1, .pointer (some ⟨b1, 0, none⟩)), (3, .int .i64 last), (4, .int .i64 (i : Int))]) ∧ (okQ 0 x.queue = okQ last (x.queue.drop i)) ∧ HS w w' [Ck.blk b1 26 #[.slice Aqx x.queue.length cqx, .int .i64 x.taken, .slice Alx x.list.length clx, .int .u64 x.next]]) _ (by kernel_rfl) ⟨0, rfl, Nat.zero_le _, 0, env_intro (by kernel_rfl) (by kernel_rfl) (by kernel_rfl), rfl, H⟩ ?_
          clear H
          rintro mm a w' ⟨i, rfl, hi, last, ⟨u, rfl⟩, hM0, H⟩ next
          refine run_ld (n := 0) (t := 22) (off := 0) (v := .slice Aqx x.queue.length cqx) H rfl (by kernel_rfl) (by kernel_rfl) (by kernel_rfl) ?_
          refine run_if (p := (i : Int) < (x.queue.length : Int)) (by kernel_rfl) (by kernel_rfl) (fun hc => ?_) (fun hc => ?_)
          · refine run_ld (n := 0) (t := 22) (off := 0) (v := .slice Aqx x.queue.length cqx) H rfl (by kernel_rfl) (by kernel_rfl) (by kernel_rfl) ?_
            obtain ⟨x1, hg_x1⟩ : ∃ z, (x.queue)[i]? = some z := ⟨_, List.getElem?_eq_getElem (by omega)⟩
            have hd_x1 := drop_cons hg_x1
            refine run_elem (t := 22) (e := 31) (k := .i64) hq hg_x1 (by kernel_rfl) (by kernel_rfl) (by kernel_rfl) (by kernel_rfl) fun be1 oe1 _ hK_x1 hc1 => ?_
            obtain ⟨vx1, rfl, hwx1, hx1⟩ := delT_open hK_x1
            obtain ⟨Ax1, cx1, rfl⟩ := hx1.form
            refine run_eld (t := 3) (f := 0) (v := .int .i64 x1.block) hc1 H.below rfl rfl (by kernel_rfl) (by kernel_rfl) (by kernel_rfl) ?_
            refine run_ask (x1.block < last) (by kernel_rfl) (by kernel_rfl) (fun hc => ?_) (fun hc => ?_)
            · refine run_cond (t := true) (by kernel_rfl) (by kernel_rfl) (fun _ => ?_) (fun h => by cases h)
              have hM : x.may = false := by first | (unfold Inbox.may; simp; omega) | (unfold Inbox.may; rw [hM0, hd_x1]; simp [okQ]; omega) | (unfold Inbox.may; rw [hM0, List.drop_eq_nil_of_le (by omega)]; rw [decide_eq_true (by omega), decide_eq_true (by omega), decide_eq_true (by omega), decide_eq_true (by omega)]; rfl)
              exact run_ret (v := .bool false) (by kernel_rfl) (by kernel_rfl) (by kernel_rfl) (⟨by rw [hM], H.below⟩)
              -- H : Ck.blk b1 26 #[.slice Aqx x.queue.length cqx, .int .i64 x.taken, .slice Alx x.list.length clx, .int .u64 x.next]
            · refine run_ld (n := 0) (t := 22) (off := 0) (v := .slice Aqx x.queue.length cqx) H rfl (by kernel_rfl) (by kernel_rfl) (by kernel_rfl) ?_
              refine run_elem (t := 22) (e := 31) (k := .i64) hq hg_x1 (by kernel_rfl) (by kernel_rfl) (by kernel_rfl) (by kernel_rfl) fun be2 oe2 _ hK_x1_1 hc2 => ?_
              obtain ⟨vx1_1, rfl, hwx1_1, hx1_1⟩ := delT_open hK_x1_1
              obtain ⟨Ax1_1, cx1_1, rfl⟩ := hx1_1.form
              refine run_eld (t := 27) (f := 1) (v := .slice Ax1_1 x1.msg.length cx1_1) hc2 H.below rfl rfl (by kernel_rfl) (by kernel_rfl) (by kernel_rfl) ?_
              refine run_if (p := (x1.msg.length : Int) > 65536) (by kernel_rfl) (by kernel_rfl) (fun hc => ?_) (fun hc => ?_)
              · have hM : x.may = false := by first | (unfold Inbox.may; simp; omega) | (unfold Inbox.may; rw [hM0, hd_x1]; simp [okQ]; omega) | (unfold Inbox.may; rw [hM0, List.drop_eq_nil_of_le (by omega)]; rw [decide_eq_true (by omega), decide_eq_true (by omega), decide_eq_true (by omega), decide_eq_true (by omega)]; rfl)
                exact run_ret (v := .bool false) (by kernel_rfl) (by kernel_rfl) (by kernel_rfl) (⟨by rw [hM], H.below⟩)
                -- H : Ck.blk b1 26 #[.slice Aqx x.queue.length cqx, .int .i64 x.taken, .slice Alx x.list.length clx, .int .u64 x.next]
              · refine run_ld (n := 0) (t := 22) (off := 0) (v := .slice Aqx x.queue.length cqx) H rfl (by kernel_rfl) (by kernel_rfl) (by kernel_rfl) ?_
                refine run_elem (t := 22) (e := 31) (k := .i64) hq hg_x1 (by kernel_rfl) (by kernel_rfl) (by kernel_rfl) (by kernel_rfl) fun be3 oe3 _ hK_x1_2 hc3 => ?_
                obtain ⟨vx1_2, rfl, hwx1_2, hx1_2⟩ := delT_open hK_x1_2
                obtain ⟨Ax1_2, cx1_2, rfl⟩ := hx1_2.form
                refine run_eld (t := 3) (f := 0) (v := .int .i64 x1.block) hc3 H.below rfl rfl (by kernel_rfl) (by kernel_rfl) (by kernel_rfl) ?_
                refine run_at (by kernel_rfl) (next (x.queue.length - (i + 1)) _ _ (by omega) ⟨i + 1, rfl, by omega, x1.block, ?_, by rw [hM0, hd_x1]; simp only [okQ]; rw [decide_eq_false (by omega), decide_eq_true (by omega)]; rfl, ?_⟩)
                · rw [← wrap_succ (n := i) (by omega)]
                  exact env_intro (by kernel_rfl) (by kernel_rfl) (by kernel_rfl)
                · exact H
          · refine run_ld (n := 0) (t := 23) (off := 2) (v := .slice Alx x.list.length clx) H rfl (by kernel_rfl) (by kernel_rfl) (by kernel_rfl) ?_
            refine run_call (f := 43) (args := #[.slice Alx x.list.length clx]) (by kernel_rfl) (by kernel_rfl) pf43 (short43_calls (hl.ext H.below) (by unfold small; omega)) fun e wc ⟨he, hE⟩ => ⟨_, he, ?_⟩
            replace H := H.ext hE
            have hM : x.may = (shortL x.list) := by first | (unfold Inbox.may; simp; omega) | (unfold Inbox.may; rw [hM0, hd_x1]; simp [okQ]; omega) | (unfold Inbox.may; rw [hM0, List.drop_eq_nil_of_le (by omega)]; rw [decide_eq_true (by omega), decide_eq_true (by omega), decide_eq_true (by omega), decide_eq_true (by omega)]; rfl)
            exact run_ret (v := .bool (shortL x.list)) (by kernel_rfl) (by kernel_rfl) (by kernel_rfl) (⟨by rw [hM], H.below⟩)
            -- H : Ck.blk b1 26 #[.slice Aqx x.queue.length cqx, .int .i64 x.taken, .slice Alx x.list.length clx, .int .u64 x.next]
end Go.Proofs.Ythmajhdemooecaa
