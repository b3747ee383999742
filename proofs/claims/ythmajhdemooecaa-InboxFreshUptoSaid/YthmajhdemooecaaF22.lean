/- The walks of the document's copies. -/
import Derived.Test.YthmajhdemooecaaP1
namespace Go.Proofs.Ythmajhdemooecaa
open Go.PM Go.RowKit
set_option linter.unusedVariables false
set_option linter.unusedSimpArgs false
attribute [local irreducible] adv advD advF fuel

theorem pf51 : plainFn Try.prog 51 = true := by kernel_rfl
theorem pf18 : plainFn Try.prog 18 = true := by kernel_rfl
theorem take_snoc {α : Type} {l : List α} {i : Nat} {x : α} (h : l[i]? = some x) : l.take (i + 1) = l.take i ++ [x] := by
  obtain ⟨hlt, rfl⟩ := List.getElem?_eq_some_iff.1 h
  exact List.take_succ_eq_append_getElem hlt

set_option maxHeartbeats 1000000 in
theorem copyList51_calls {l : List Bytes} {vl : Value} {w : World} (hl : Sl bytesT w Any l vl) (hn : small l.length) (hml : ∀ m ∈ l, small m.length) :
    Calls Try.prog 51 #[vl] w fun e w' => ∃ v, e = .returned v ∧ HS w w' [Ck.own bytesT 27 v l] := by
  have H := HS.refl w
  unfold small at hn
  obtain ⟨Al, cl, rfl⟩ := hl.form
  refine calls_run Try.func51 (by kernel_rfl) ?_
  have H := H.nil bytesT 27
  refine run_loop (fun mm a w' => ∃ i, mm = l.length - i ∧ i ≤ l.length ∧ ∃ A3, ∃ c3, (∃ u, a = env 20 u [(0, .slice Al l.length cl), (3, .slice A3 (l.take i).length c3), (4, .int .i64 (i : Int))]) ∧ HS w w' [Ck.own bytesT 27 (.slice A3 (l.take i).length c3) (l.take i)]) _ (by kernel_rfl) ⟨0, rfl, Nat.zero_le _, none, 0, env_intro (by kernel_rfl) (by kernel_rfl) (by kernel_rfl), H⟩ ?_
  clear H
  rintro mm a w' ⟨i, rfl, hi, A3, c3, ⟨u, rfl⟩, H⟩ next
  refine run_if (p := (i : Int) < (l.length : Int)) (by kernel_rfl) (by kernel_rfl) (fun hc => ?_) (fun hc => ?_)
  · obtain ⟨x1, hg_x1⟩ : ∃ z, (l)[i]? = some z := ⟨_, List.getElem?_eq_getElem (by omega)⟩
    have hd_x1 := drop_cons hg_x1
    refine run_elem (t := 23) (e := 27) (k := .i64) hl hg_x1 (by kernel_rfl) (by kernel_rfl) (by kernel_rfl) (by kernel_rfl) fun be1 oe1 _ hK_x1 hc1 => ?_
    obtain ⟨vx1, rfl, hx1⟩ := bytesT_open hK_x1
    obtain ⟨Ax1, cx1, rfl⟩ := hx1.form
    refine run_eld (t := 27) (f := 0) (v := .slice Ax1 x1.length cx1) hc1 H.below rfl rfl (by kernel_rfl) (by kernel_rfl) (by kernel_rfl) ?_
    refine run_call (f := 19) (args := #[.slice Ax1 x1.length cx1]) (by kernel_rfl) (by kernel_rfl) pf19 (copy19_calls (hx1.ext H.below) (hml _ (List.mem_of_getElem? hg_x1))) fun e wc ⟨v1, he, hH⟩ => ⟨_, he, ?_⟩
    replace H := H.join hH
    clear hH
    obtain ⟨Av1, cv1, rfl⟩ := (H.sl 0 rfl).form
    refine run_bs (e := 27) (len := 1) (cells := #[.slice Av1 x1.length cv1]) H (by kernel_rfl) (by kernel_rfl) fun bb1 wc H => ?_
    have hbb1 := H.blk 0 rfl
    have H := (H.pick 1 rfl).map (c' := Ck.dat bytesT [.slice Av1 x1.length cv1] x1) fun S hS => bytesT_mk hS
    obtain ⟨va1, wa1, hr1, H⟩ := (H.pick 2 rfl).app_own (cap := 1) row23 hbb1 (by simp; omega)
    obtain ⟨Aa1, ca1, rfl⟩ : ∃ A c, va1 = .slice A ((l.take i) ++ [x1]).length c := (H.sl 0 rfl).form
    refine run_val (by kernel_rfl) (op_append (s := .slice A3 (l.take i).length c3) (by kernel_rfl) hr1) ?_
    refine run_at (by kernel_rfl) (next (l.length - (i + 1)) _ _ (by omega) ⟨i + 1, rfl, by omega, Aa1, ca1, ?_, ?_⟩)
    · rw [take_snoc hg_x1, ← wrap_succ (n := i) (by omega)]
      exact env_intro (by kernel_rfl) (by kernel_rfl) (by kernel_rfl)
    · rw [take_snoc hg_x1]; exact H.sel [0] (by decide) rfl
  · exact run_ret (v := .slice A3 (l.take i).length c3) (by kernel_rfl) (by kernel_rfl) (by kernel_rfl) (by have hE : l.take i = l := List.take_of_length_le (by omega); rw [hE] at H ⊢; exact ⟨_, rfl, H⟩)
    -- H : Ck.own bytesT 27 (.slice A3 (l.take i).length c3) (l.take i)

set_option maxHeartbeats 1000000 in
theorem copy18_calls {x : Inbox} {vq vl : Value} {w : World} (hx : InArg w x vq vl) :
    Calls Try.prog 18 #[.agg #[vq, .int .i64 x.taken, vl, .int .u64 x.next]] w fun e w' => ∃ vq' vl', e = .returned (.agg #[vq', .int .i64 x.taken, vl', .int .u64 x.next]) ∧ HS w w' [Ck.own bytesT 27 vl' x.list, Ck.own delT 31 vq' x.queue] := by
  have H := HS.refl w
  have hnq := hx.nq
  unfold small at hnq
  obtain ⟨Aqx, cqx, rfl⟩ := hx.q.form
  obtain ⟨Alx, clx, rfl⟩ := hx.l.form
  refine calls_run Try.func18 (by kernel_rfl) ?_
  refine run_box (t := 26) (v := .agg #[.slice Aqx x.queue.length cqx, .int .i64 x.taken, .slice Alx x.list.length clx, .int .u64 x.next]) H (by kernel_rfl) (by kernel_rfl) fun b1 wc H => ?_
  refine run_alloc (t := 26) (v := .agg #[.slice none 0 0, .int .i64 0, .slice none 0 0, .int .u64 0]) H (by kernel_rfl) (by kernel_rfl) fun b2 wc H => ?_
  have H := H.nil delT 31
  refine run_loop (fun mm a w' => ∃ i, mm = x.queue.length - i ∧ i ≤ x.queue.length ∧ ∃ A3, ∃ c3, (∃ u, a = env 36 u [(1, .pointer (some ⟨b1, 0, none⟩)), (2, .pointer (some ⟨b2, 0, none⟩)), (3, .slice A3 (x.queue.take i).length c3), (4, .int .i64 (i : Int))]) ∧ HS w w' [Ck.own delT 31 (.slice A3 (x.queue.take i).length c3) (x.queue.take i), Ck.blk b2 26 #[.slice none 0 0, .int .i64 0, .slice none 0 0, .int .u64 0], Ck.blk b1 26 #[.slice Aqx x.queue.length cqx, .int .i64 x.taken, .slice Alx x.list.length clx, .int .u64 x.next]]) _ (by kernel_rfl) ⟨0, rfl, Nat.zero_le _, none, 0, env_intro (by kernel_rfl) (by kernel_rfl) (by kernel_rfl), H⟩ ?_
  clear H
  rintro mm a w' ⟨i, rfl, hi, A3, c3, ⟨u, rfl⟩, H⟩ next
  refine run_ld (n := 2) (t := 22) (off := 0) (v := .slice Aqx x.queue.length cqx) H rfl (by kernel_rfl) (by kernel_rfl) (by kernel_rfl) ?_
  refine run_if (p := (i : Int) < (x.queue.length : Int)) (by kernel_rfl) (by kernel_rfl) (fun hc => ?_) (fun hc => ?_)
  · refine run_draw follows (by kernel_rfl) fun wD hE => ?_
    replace H := H.ext hE
    refine rob_ld (n := 2) (t := 22) (off := 0) (v := .slice Aqx x.queue.length cqx) H rfl (by kernel_rfl) (by kernel_rfl) (by kernel_rfl) (by kernel_rfl) ?_
    obtain ⟨x1, hg_x1⟩ : ∃ z, (x.queue)[i]? = some z := ⟨_, List.getElem?_eq_getElem (by omega)⟩
    have hd_x1 := drop_cons hg_x1
    refine rob_elem (t := 22) (e := 31) (k := .i64) hx.q hg_x1 (by kernel_rfl) rfl (by kernel_rfl) (by kernel_rfl) (by kernel_rfl) fun be1 oe1 _ hK_x1 hc1 => ?_
    obtain ⟨vx1, rfl, hwx1, hx1⟩ := delT_open hK_x1
    obtain ⟨Ax1, cx1, rfl⟩ := hx1.form
    refine rob_eld (t := 3) (f := 0) (v := .int .i64 x1.block) hc1 H.below rfl rfl (by kernel_rfl) (by kernel_rfl) (by kernel_rfl) (by kernel_rfl) ?_
    refine rob_ld (n := 2) (t := 22) (off := 0) (v := .slice Aqx x.queue.length cqx) H rfl (by kernel_rfl) (by kernel_rfl) (by kernel_rfl) (by kernel_rfl) ?_
    refine rob_elem (t := 22) (e := 31) (k := .i64) hx.q hg_x1 (by kernel_rfl) rfl (by kernel_rfl) (by kernel_rfl) (by kernel_rfl) fun be2 oe2 _ hK_x1_1 hc2 => ?_
    obtain ⟨vx1_1, rfl, hwx1_1, hx1_1⟩ := delT_open hK_x1_1
    obtain ⟨Ax1_1, cx1_1, rfl⟩ := hx1_1.form
    refine rob_eld (t := 27) (f := 1) (v := .slice Ax1_1 x1.msg.length cx1_1) hc2 H.below rfl rfl (by kernel_rfl) (by kernel_rfl) (by kernel_rfl) (by kernel_rfl) ?_
    refine rob_call (f := 19) (args := #[.slice Ax1_1 x1.msg.length cx1_1]) (by kernel_rfl) (by kernel_rfl) pf19 (copy19_calls (hx1_1.ext H.below) (hx.mq _ (List.mem_of_getElem? hg_x1))) fun e wc ⟨v1, he, hH⟩ => ⟨_, he, .inr (hH.below), ?_⟩
    replace H := H.join hH
    clear hH
    obtain ⟨Av1, cv1, rfl⟩ := (H.sl 0 rfl).form
    refine rob_bs (e := 31) (len := 1) (cells := #[.int .i64 x1.block, .slice Av1 x1.msg.length cv1]) H (by kernel_rfl) (by kernel_rfl) fun bb1 wc H => ?_
    have hbb1 := H.blk 0 rfl
    have H := (H.pick 1 rfl).map (c' := Ck.dat delT [.int .i64 x1.block, .slice Av1 x1.msg.length cv1] x1) fun S hS => delT_mk (x := x1) (by assumption) hS
    obtain ⟨va1, wa1, hr1, H⟩ := (H.pick 2 rfl).app_own (cap := 1) row22 hbb1 (by simp; omega)
    obtain ⟨Aa1, ca1, rfl⟩ : ∃ A c, va1 = .slice A ((x.queue.take i) ++ [x1]).length c := (H.sl 0 rfl).form
    refine rob_barv (by kernel_rfl) (by kernel_rfl) (op_append (s := .slice A3 (x.queue.take i).length c3) (by kernel_rfl) hr1) ?_
    refine rob_done (by kernel_rfl) ?_
    refine run_at (by kernel_rfl) (next (x.queue.length - (i + 1)) _ _ (by omega) ⟨i + 1, rfl, by omega, Aa1, ca1, ?_, ?_⟩)
    · rw [take_snoc hg_x1, ← wrap_succ (n := i) (by omega)]
      exact env_intro (by kernel_rfl) (by kernel_rfl) (by kernel_rfl)
    · rw [take_snoc hg_x1]; exact H.sel [0, 2, 3] (by decide) rfl
  · refine run_ld (n := 2) (t := 23) (off := 2) (v := .slice Alx x.list.length clx) H rfl (by kernel_rfl) (by kernel_rfl) (by kernel_rfl) ?_
    refine run_call (f := 51) (args := #[.slice Alx x.list.length clx]) (by kernel_rfl) (by kernel_rfl) pf51 (copyList51_calls (hx.l.ext H.below) hx.nl hx.ml) fun e wc ⟨v2, he, hH⟩ => ⟨_, he, ?_⟩
    replace H := H.join hH
    clear hH
    obtain ⟨Av2, cv2, rfl⟩ := (H.sl 0 rfl).form
    refine run_st (n := 3) (t := 22) (off := 0) (v := .slice A3 (x.queue.take i).length c3) (cs' := #[.slice A3 (x.queue.take i).length c3, .int .i64 x.taken, .slice Alx x.list.length clx, .int .u64 x.next]) H rfl (by kernel_rfl) (by kernel_rfl) (by kernel_rfl) fun wc H => ?_
    refine run_st (n := 3) (t := 23) (off := 2) (v := .slice Av2 x.list.length cv2) (cs' := #[.slice A3 (x.queue.take i).length c3, .int .i64 x.taken, .slice Av2 x.list.length cv2, .int .u64 x.next]) H rfl (by kernel_rfl) (by kernel_rfl) (by kernel_rfl) fun wc H => ?_
    refine run_ld (n := 3) (t := 26) (off := 0) (v := .agg #[.slice A3 (x.queue.take i).length c3, .int .i64 x.taken, .slice Av2 x.list.length cv2, .int .u64 x.next]) H rfl (by kernel_rfl) (by kernel_rfl) (by kernel_rfl) ?_
    refine run_st (n := 2) (t := 26) (off := 0) (v := .agg #[.slice A3 (x.queue.take i).length c3, .int .i64 x.taken, .slice Av2 x.list.length cv2, .int .u64 x.next]) (cs' := #[.slice A3 (x.queue.take i).length c3, .int .i64 x.taken, .slice Av2 x.list.length cv2, .int .u64 x.next]) H rfl (by kernel_rfl) (by kernel_rfl) (by kernel_rfl) fun wc H => ?_
    exact run_ret (v := .agg #[.slice A3 (x.queue.take i).length c3, .int .i64 x.taken, .slice Av2 x.list.length cv2, .int .u64 x.next]) (by kernel_rfl) (by kernel_rfl) (res1 Try.results18 (rv_cell (H.blk 2 rfl) (by kernel_rfl) (by kernel_rfl))) (by have hE : x.queue.take i = x.queue := List.take_of_length_le (by omega); have H := H.sel [0, 1] (by decide) (L' := [Ck.own bytesT 27 (.slice Av2 x.list.length cv2) x.list, Ck.own delT 31 (.slice A3 (x.queue.take i).length c3) (x.queue.take i)]) rfl; rw [hE] at H ⊢; exact ⟨_, _, rfl, H⟩)
    -- H : Ck.own bytesT 27 (.slice Av2 x.list.length cv2) x.list, Ck.own delT 31 (.slice A3 (x.queue.take i).length c3) (x.queue.take i), Ck.blk b2 26 #[.slice A3 (x.queue.take i).length c3, .int .i64 x.taken, .slice Av2 x.list.length cv2, .int .u64 x.next], Ck.blk b1 26 #[.slice A3 (x.queue.take i).length c3, .int .i64 x.taken, .slice Av2 x.list.length cv2, .int .u64 x.next]

theorem pf52 : plainFn Try.prog 52 = true := by kernel_rfl
set_option maxHeartbeats 1000000 in
/-- One of those that wait is taken. -/
theorem take52_calls {w0 w : World} {L : List Ck} {bx t : Nat} {q : List Delayed} {l : List Bytes} {nx : Int} {vq vl : Value}
    (H : HS w0 w (Ck.blk bx 26 #[vq, .int .i64 (t : Int), vl, .int .u64 nx] :: Ck.own bytesT 27 vl l :: Ck.own delT 31 vq q :: L)) {d : Delayed} (ht : q[t]? = some d) (hq : small q.length) (hn : l.length + 1 ≤ 137438953472) (mq : ∀ d ∈ q, small d.msg.length) :
    Calls Try.prog 52 #[.pointer (some ⟨bx, 0, none⟩)] w fun e w' => ∃ vl', e = .returned (.tuple #[]) ∧
      HS w0 w' (Ck.blk bx 26 #[vq, .int .i64 ((t + 1 : Nat) : Int), vl', .int .u64 nx] :: Ck.own bytesT 27 vl' (l ++ [d.msg]) :: Ck.own delT 31 vq q :: L) := by
  unfold small at hq
  have htl := (List.getElem?_eq_some_iff.1 ht).1
  obtain ⟨Aq, cq, rfl⟩ := (H.sl 2 rfl).form
  obtain ⟨Al, cl, rfl⟩ := (H.sl 1 rfl).form
  refine calls_run Try.func52 (by kernel_rfl) ?_
  refine run_draw follows (by kernel_rfl) fun wD hE => ?_
  replace H := H.ext hE
  refine rob_ld (n := 0) (t := 23) (off := 2) (v := .slice Al l.length cl) H rfl (by kernel_rfl) (by kernel_rfl) (by kernel_rfl) (by kernel_rfl) ?_
  refine rob_ld (n := 0) (t := 22) (off := 0) (v := .slice Aq q.length cq) H rfl (by kernel_rfl) (by kernel_rfl) (by kernel_rfl) (by kernel_rfl) ?_
  refine rob_ld (n := 0) (t := 3) (off := 1) (v := .int .i64 (t : Int)) H rfl (by kernel_rfl) (by kernel_rfl) (by kernel_rfl) (by kernel_rfl) ?_
  obtain ⟨x1, hg_x1⟩ : ∃ z, (q)[t]? = some z := ⟨_, List.getElem?_eq_getElem (by omega)⟩
  obtain rfl : d = x1 := by rw [ht] at hg_x1; exact Option.some.inj hg_x1
  refine rob_elem (t := 22) (e := 31) (k := .i64) (H.sl 2 rfl) hg_x1 (by kernel_rfl) rfl (by kernel_rfl) (by kernel_rfl) (by kernel_rfl) fun be1 oe1 _ hK_x1 hc1 => ?_
  obtain ⟨vx1, rfl, hwx1, hx1⟩ := delT_open hK_x1
  obtain ⟨Ax1, cx1, rfl⟩ := hx1.form
  refine rob_eld (t := 27) (f := 1) (v := .slice Ax1 d.msg.length cx1) hc1 (Ext.refl _) rfl rfl (by kernel_rfl) (by kernel_rfl) (by kernel_rfl) (by kernel_rfl) ?_
  refine rob_call (f := 19) (args := #[.slice Ax1 d.msg.length cx1]) (by kernel_rfl) (by kernel_rfl) pf19 (copy19_calls hx1 (mq _ (List.mem_of_getElem? hg_x1))) fun e wc ⟨v1, he, hH⟩ => ⟨_, he, .inr (hH.below), ?_⟩
  replace H := H.join hH
  clear hH
  obtain ⟨Av1, cv1, rfl⟩ := (H.sl 0 rfl).form
  refine rob_bs (e := 27) (len := 1) (cells := #[.slice Av1 d.msg.length cv1]) H (by kernel_rfl) (by kernel_rfl) fun bb1 wc H => ?_
  have hbb1 := H.blk 0 rfl
  have H := (H.pick 1 rfl).map (c' := Ck.dat bytesT [.slice Av1 d.msg.length cv1] d.msg) fun S hS => bytesT_mk hS
  obtain ⟨va1, wa1, hr1, H⟩ := (H.pick 3 rfl).app_own (cap := 1) row23 hbb1 (by omega)
  obtain ⟨Aa1, ca1, rfl⟩ : ∃ A c, va1 = .slice A (l ++ [d.msg]).length c := (H.sl 0 rfl).form
  refine rob_barv (by kernel_rfl) (by kernel_rfl) (op_append (s := .slice Al l.length cl) (by kernel_rfl) hr1) ?_
  refine rob_st (n := 2) (t := 23) (off := 2) (v := .slice Aa1 (l ++ [d.msg]).length ca1) (cs' := #[.slice Aq q.length cq, .int .i64 (t : Int), .slice Aa1 (l ++ [d.msg]).length ca1, .int .u64 nx]) H rfl (by kernel_rfl) (by kernel_rfl) (by kernel_rfl) (by kernel_rfl) fun wc H => ?_
  refine rob_done (by kernel_rfl) ?_
  refine run_ld (n := 2) (t := 3) (off := 1) (v := .int .i64 (t : Int)) H rfl (by kernel_rfl) (by kernel_rfl) (by kernel_rfl) ?_
  refine run_st (n := 2) (t := 3) (off := 1) (v := .int .i64 (IntKind.i64.wrap ((t : Int) + 1))) (cs' := #[.slice Aq q.length cq, .int .i64 (IntKind.i64.wrap ((t : Int) + 1)), .slice Aa1 (l ++ [d.msg]).length ca1, .int .u64 nx]) H rfl (by kernel_rfl) (by kernel_rfl) (by kernel_rfl) fun wc H => ?_
  rw [wrap_succ (by omega)] at H
  exact run_ret (v := .tuple #[]) (by kernel_rfl) (by kernel_rfl) (res0 (by kernel_rfl)) (⟨_, rfl, HS.selT (A := [Ck.own bytesT 27 (.slice Aa1 (l ++ [d.msg]).length ca1) (l ++ [d.msg]), Ck.blk bb1 27 #[.slice Av1 d.msg.length cv1], Ck.blk bx 26 #[.slice Aq q.length cq, .int .i64 ((t + 1 : Nat) : Int), .slice Aa1 (l ++ [d.msg]).length ca1, .int .u64 nx], Ck.own delT 31 (.slice Aq q.length cq) q]) (R := L) (L' := [Ck.blk bx 26 #[.slice Aq q.length cq, .int .i64 ((t + 1 : Nat) : Int), .slice Aa1 (l ++ [d.msg]).length ca1, .int .u64 nx], Ck.own bytesT 27 (.slice Aa1 (l ++ [d.msg]).length ca1) (l ++ [d.msg]), Ck.own delT 31 (.slice Aq q.length cq) q]) H [2, 0, 3] (by decide) rfl rfl⟩)
  -- H : Ck.own bytesT 27 (.slice Aa1 (l ++ [d.msg]).length ca1) (l ++ [d.msg]), Ck.blk bb1 27 #[.slice Av1 d.msg.length cv1], Ck.blk bx 26 #[.slice Aq q.length cq, .int .i64 (IntKind.i64.wrap ((t : Int) + 1)), .slice Aa1 (l ++ [d.msg]).length ca1, .int .u64 nx], Ck.own delT 31 (.slice Aq q.length cq) q
end Go.Proofs.Ythmajhdemooecaa
