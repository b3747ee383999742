/- The walks of the document's Tick and Same. -/
import Derived.Test.YthmajhdemooecaaF22
namespace Go.Proofs.Ythmajhdemooecaa
open Go.PM Go.RowKit
set_option linter.unusedVariables false
set_option linter.unusedSimpArgs false
attribute [local irreducible] adv advD advF fuel

theorem pf21 : plainFn Try.prog 21 = true := by kernel_rfl
theorem pf22 : plainFn Try.prog 22 = true := by kernel_rfl

theorem taken_snoc {q : List Delayed} {t k : Nat} {d : Delayed} (h : q[t + k]? = some d) : ((q.drop t).take (k + 1)).map (·.msg) = ((q.drop t).take k).map (·.msg) ++ [d.msg] := by
  rw [take_drop_succ h, List.map_append]; rfl
theorem tick_more {x : Inbox} {block : Int} {t k : Nat} {d : Delayed} (hk : k ≤ tickN block (x.queue.drop t) (4096 - x.list.length)) (hd : x.queue[t + k]? = some d) (hb : d.block ≤ block - 8) (hl : x.list.length + k < 4096) :
    k + 1 ≤ tickN block (x.queue.drop t) (4096 - x.list.length) := by
  unfold tickN at hk ⊢
  refine Nat.succ_le_of_lt ((takeWhile_step _ _ _ hk).2 ⟨d, ?_, decide_eq_true (by omega)⟩)
  rw [List.getElem?_take, if_pos (by omega), List.getElem?_drop]; exact hd
theorem tick_stop {x : Inbox} {block : Int} {t k : Nat} (hk : k ≤ tickN block (x.queue.drop t) (4096 - x.list.length))
    (h : x.queue.length ≤ t + k ∨ (∃ d, x.queue[t + k]? = some d ∧ ¬ d.block ≤ block - 8) ∨ 4096 ≤ x.list.length + k) : tickN block (x.queue.drop t) (4096 - x.list.length) = k := by
  rcases Nat.lt_or_ge k (tickN block (x.queue.drop t) (4096 - x.list.length)) with hlt | hge
  · exfalso
    unfold tickN at hk hlt
    obtain ⟨d, hd, hp⟩ := (takeWhile_step _ _ _ hk).1 hlt
    rw [List.getElem?_take] at hd
    split at hd
    · rename_i hr
      rw [List.getElem?_drop] at hd
      have := (List.getElem?_eq_some_iff.1 hd).1
      have hp := of_decide_eq_true hp
      rcases h with h | ⟨e, he, hn⟩ | h
      · omega
      · rw [hd] at he; injection he with he; subst he; omega
      · omega
    · cases hd
  · omega
theorem tick_bad {x : Inbox} {block : Int} (h : ¬ (x.may = true ∧ 0 ≤ block)) : x.tick block = (.zero, 2) := by unfold Inbox.tick; rw [if_neg h]
theorem tick_eq {x : Inbox} {block : Int} {t k : Nat} {ls : List Bytes} (ht : x.taken = (t : Int)) (hm : x.may = true) (hb : 0 ≤ block) (hN : tickN block (x.queue.drop t) (4096 - x.list.length) = k) (hls : ls = x.list ++ (((x.queue.drop t).take k).map (·.msg))) :
    x.tick block = (⟨x.queue, ((t + k : Nat) : Int), ls, x.next⟩, 0) := by
  unfold Inbox.tick
  rw [if_pos ⟨hm, hb⟩, ht]
  simp only [Int.toNat_natCast]
  rw [hN, hls]

set_option maxHeartbeats 2000000 in
theorem tick21_calls {x : Inbox} {vq vl : Value} {w : World} (hx : InArg w x vq vl) {block : Int} (hb : IntKind.i64.wrap block = block) :
    Calls Try.prog 21 #[.agg #[vq, .int .i64 x.taken, vl, .int .u64 x.next], .int .i64 block] w fun e w' => RetIn w e w' (x.tick block).1 (x.tick block).2 := by
  have H := HS.refl w
  have hbr := wrapped hb
  have hnq := hx.nq
  have hnl := hx.nl
  unfold small at hnq hnl
  obtain ⟨Aqx, cqx, rfl⟩ := hx.q.form
  obtain ⟨Alx, clx, rfl⟩ := hx.l.form
  refine calls_run Try.func21 (by kernel_rfl) ?_
  refine run_box (t := 26) (v := .agg #[.slice Aqx x.queue.length cqx, .int .i64 x.taken, .slice Alx x.list.length clx, .int .u64 x.next]) H (by kernel_rfl) (by kernel_rfl) fun b1 wc H => ?_
  refine run_alloc (t := 26) (v := .agg #[.slice none 0 0, .int .i64 0, .slice none 0 0, .int .u64 0]) H (by kernel_rfl) (by kernel_rfl) fun b2 wc H => ?_
  refine run_ld (n := 1) (t := 26) (off := 0) (v := .agg #[.slice Aqx x.queue.length cqx, .int .i64 x.taken, .slice Alx x.list.length clx, .int .u64 x.next]) H rfl (by kernel_rfl) (by kernel_rfl) (by kernel_rfl) ?_
  refine run_call (f := 11) (args := #[.agg #[.slice Aqx x.queue.length cqx, .int .i64 x.taken, .slice Alx x.list.length clx, .int .u64 x.next]]) (by kernel_rfl) (by kernel_rfl) pf11 (may11_calls (hx.q.ext H.below) (hx.l.ext H.below) hx.nq hx.nl) fun e wc ⟨he, hE⟩ => ⟨_, he, ?_⟩
  replace H := H.ext hE
  refine run_askB (!x.may) (by kernel_rfl) (by kernel_rfl) (fun hc => ?_) (fun hc => ?_)
  · refine run_cond (t := true) (by kernel_rfl) (by kernel_rfl) (fun _ => ?_) (fun h => by cases h)
    refine run_st (n := 0) (t := 26) (off := 0) (v := .agg #[.slice none 0 0, .int .i64 0, .slice none 0 0, .int .u64 0]) (cs' := #[.slice none 0 0, .int .i64 0, .slice none 0 0, .int .u64 0]) H rfl (by kernel_rfl) (by kernel_rfl) (by kernel_rfl) fun wc H => ?_
    exact run_ret (v := .tuple #[.agg #[.slice none 0 0, .int .i64 0, .slice none 0 0, .int .u64 0], .int .i64 2]) (by kernel_rfl) (by kernel_rfl) (resN Try.results21 (vs := [.agg #[.slice none 0 0, .int .i64 0, .slice none 0 0, .int .u64 0], .int .i64 2]) (by simp) ⟨rv_cell (H.blk 0 rfl) (by kernel_rfl) (by kernel_rfl), rv_tmp (by kernel_rfl), trivial⟩) (by rw [tick_bad (by intro h; first | omega | (rw [h.1] at hc; cases hc))]; exact ⟨_, _, rfl, ((H.take 0).nil delT 31).nil bytesT 27⟩)
  · refine run_if (p := block < 0) (by kernel_rfl) (by kernel_rfl) (fun hc => ?_) (fun hc => ?_)
    · refine run_st (n := 0) (t := 26) (off := 0) (v := .agg #[.slice none 0 0, .int .i64 0, .slice none 0 0, .int .u64 0]) (cs' := #[.slice none 0 0, .int .i64 0, .slice none 0 0, .int .u64 0]) H rfl (by kernel_rfl) (by kernel_rfl) (by kernel_rfl) fun wc H => ?_
      exact run_ret (v := .tuple #[.agg #[.slice none 0 0, .int .i64 0, .slice none 0 0, .int .u64 0], .int .i64 2]) (by kernel_rfl) (by kernel_rfl) (resN Try.results21 (vs := [.agg #[.slice none 0 0, .int .i64 0, .slice none 0 0, .int .u64 0], .int .i64 2]) (by simp) ⟨rv_cell (H.blk 0 rfl) (by kernel_rfl) (by kernel_rfl), rv_tmp (by kernel_rfl), trivial⟩) (by rw [tick_bad (by intro h; first | omega | (rw [h.1] at hc; cases hc))]; exact ⟨_, _, rfl, ((H.take 0).nil delT 31).nil bytesT 27⟩)
    · refine run_ld (n := 1) (t := 26) (off := 0) (v := .agg #[.slice Aqx x.queue.length cqx, .int .i64 x.taken, .slice Alx x.list.length clx, .int .u64 x.next]) H rfl (by kernel_rfl) (by kernel_rfl) (by kernel_rfl) ?_
      refine run_call (f := 18) (args := #[.agg #[.slice Aqx x.queue.length cqx, .int .i64 x.taken, .slice Alx x.list.length clx, .int .u64 x.next]]) (by kernel_rfl) (by kernel_rfl) pf18 (copy18_calls (hx.ext H.below)) fun e wc ⟨v1, v2, he, hH⟩ => ⟨_, he, ?_⟩
      replace H := H.join hH
      clear hH
      obtain ⟨Av2, cv2, rfl⟩ := (H.sl 0 rfl).form
      obtain ⟨Av1, cv1, rfl⟩ := (H.sl 1 rfl).form
      refine run_alloc (t := 26) (v := .agg #[.slice none 0 0, .int .i64 0, .slice none 0 0, .int .u64 0]) H (by kernel_rfl) (by kernel_rfl) fun b3 wc H => ?_
      refine run_st (n := 0) (t := 26) (off := 0) (v := .agg #[.slice Av1 x.queue.length cv1, .int .i64 x.taken, .slice Av2 x.list.length cv2, .int .u64 x.next]) (cs' := #[.slice Av1 x.queue.length cv1, .int .i64 x.taken, .slice Av2 x.list.length cv2, .int .u64 x.next]) H rfl (by kernel_rfl) (by kernel_rfl) (by kernel_rfl) fun wc H => ?_
      have hm : x.may = true := by simpa using ‹(!x.may) = false›
      have hz_x := may_le hm
      have h0b : 0 ≤ block := by omega
      have ht2 : 0 ≤ x.taken ∧ x.taken ≤ (x.queue.length : Int) := ⟨(may_spec hm).2.2.1, (may_spec hm).2.2.2.1⟩
      obtain ⟨t, ht⟩ : ∃ t : Nat, x.taken = (t : Int) := ⟨x.taken.toNat, by omega⟩
      rw [ht] at H
      have hw8 : IntKind.i64.wrap (block - 8) = block - 8 := i64_of (by omega) (by omega)
      refine run_loop (fun mm a w' => ∃ k, mm = 4096 - k ∧ k ≤ 4096 ∧ ∃ ls, ∃ Ak, ∃ ck, (∃ u, a = env 43 u [(1, .int .i64 block), (4, .pointer (some ⟨b2, 0, none⟩)), (6, .pointer (some ⟨b3, 0, none⟩))]) ∧ (k ≤ tickN block (x.queue.drop t) (4096 - x.list.length)) ∧ (ls = x.list ++ (((x.queue.drop t).take k).map (·.msg))) ∧ (ls.length = x.list.length + k) ∧ HS w w' [Ck.blk b3 26 #[.slice Av1 x.queue.length cv1, .int .i64 ((t + k : Nat) : Int), .slice Ak ls.length ck, .int .u64 x.next], Ck.own bytesT 27 (.slice Ak ls.length ck) ls, Ck.own delT 31 (.slice Av1 x.queue.length cv1) x.queue, Ck.blk b2 26 #[.slice none 0 0, .int .i64 0, .slice none 0 0, .int .u64 0], Ck.blk b1 26 #[.slice Aqx x.queue.length cqx, .int .i64 (t : Int), .slice Alx x.list.length clx, .int .u64 x.next]]) _ (by kernel_rfl) ⟨0, rfl, Nat.zero_le _, x.list, _, _, env_intro (by kernel_rfl) (by kernel_rfl) (by kernel_rfl), Nat.zero_le _, by simp, by simp, H⟩ ?_
      clear H
      rintro mm a w' ⟨k, rfl, hi, ls, Ak, ck, ⟨u, rfl⟩, hk, hls, hll, H⟩ next
      refine run_ld (n := 0) (t := 3) (off := 1) (v := .int .i64 ((t + k : Nat) : Int)) H rfl (by kernel_rfl) (by kernel_rfl) (by kernel_rfl) ?_
      refine run_ld (n := 0) (t := 22) (off := 0) (v := .slice Av1 x.queue.length cv1) H rfl (by kernel_rfl) (by kernel_rfl) (by kernel_rfl) ?_
      refine run_ask (((t + k : Nat) : Int) < (x.queue.length : Int)) (by kernel_rfl) (by kernel_rfl) (fun hc => ?_) (fun hc => ?_)
      · refine run_ld (n := 0) (t := 22) (off := 0) (v := .slice Av1 x.queue.length cv1) H rfl (by kernel_rfl) (by kernel_rfl) (by kernel_rfl) ?_
        refine run_ld (n := 0) (t := 3) (off := 1) (v := .int .i64 ((t + k : Nat) : Int)) H rfl (by kernel_rfl) (by kernel_rfl) (by kernel_rfl) ?_
        obtain ⟨x1, hg_x1⟩ : ∃ z, (x.queue)[(t + k)]? = some z := ⟨_, List.getElem?_eq_getElem (by omega)⟩
        have hd_x1 := drop_cons hg_x1
        refine run_elemZ (t := 22) (e := 31) (k := .i64) (z := ((t + k : Nat) : Int)) (rfl) (H.sl 2 rfl) hg_x1 (by kernel_rfl) (by kernel_rfl) (by kernel_rfl) (by kernel_rfl) fun be1 oe1 _ hK_x1 hc1 => ?_
        obtain ⟨vx1, rfl, hwx1, hx1⟩ := delT_open hK_x1
        obtain ⟨Ax1, cx1, rfl⟩ := hx1.form
        refine run_eld (t := 3) (f := 0) (v := .int .i64 x1.block) hc1 (Ext.refl _) rfl rfl (by kernel_rfl) (by kernel_rfl) (by kernel_rfl) ?_
        refine run_ask (x1.block ≤ (IntKind.i64.wrap (block - 8))) (by kernel_rfl) (by kernel_rfl) (fun hc => ?_) (fun hc => ?_)
        · refine run_ld (n := 0) (t := 23) (off := 2) (v := .slice Ak ls.length ck) H rfl (by kernel_rfl) (by kernel_rfl) (by kernel_rfl) ?_
          refine run_if (p := (ls.length : Int) < 4096) (by kernel_rfl) (by kernel_rfl) (fun hc => ?_) (fun hc => ?_)
          · have H := H.sel [0, 1, 2, 3, 4] (by decide) (L' := [Ck.blk b3 26 #[.slice Av1 x.queue.length cv1, .int .i64 ((t + k : Nat) : Int), .slice Ak ls.length ck, .int .u64 x.next], Ck.own bytesT 27 (.slice Ak ls.length ck) ls, Ck.own delT 31 (.slice Av1 x.queue.length cv1) x.queue, Ck.blk b2 26 #[.slice none 0 0, .int .i64 0, .slice none 0 0, .int .u64 0], Ck.blk b1 26 #[.slice Aqx x.queue.length cqx, .int .i64 (t : Int), .slice Alx x.list.length clx, .int .u64 x.next]]) rfl
            refine run_call (f := 52) (args := #[.pointer (some ⟨b3, 0, none⟩)]) (by kernel_rfl) (by kernel_rfl) pf52 (take52_calls H hg_x1 (by unfold small; omega) (by omega) hx.mq) fun e wc ⟨v3, he, H⟩ => ⟨_, he, ?_⟩
            obtain ⟨Av3, cv3, rfl⟩ : ∃ A c, v3 = .slice A (ls ++ [x1.msg]).length c := (H.sl 1 rfl).form
            refine run_at (by kernel_rfl) (next (4096 - (k + 1)) _ _ (by omega) ⟨k + 1, rfl, by omega, ls ++ [x1.msg], Av3, cv3, ?_, tick_more hk hg_x1 (by omega) (by omega), by rw [hls, taken_snoc hg_x1, List.append_assoc], by simp; omega, ?_⟩)
            · exact env_intro (by kernel_rfl) (by kernel_rfl) (by kernel_rfl)
            · exact H.sel [0, 1, 2, 3, 4] (by decide) rfl
          · refine run_ld (n := 0) (t := 26) (off := 0) (v := .agg #[.slice Av1 x.queue.length cv1, .int .i64 ((t + k : Nat) : Int), .slice Ak ls.length ck, .int .u64 x.next]) H rfl (by kernel_rfl) (by kernel_rfl) (by kernel_rfl) ?_
            refine run_st (n := 3) (t := 26) (off := 0) (v := .agg #[.slice Av1 x.queue.length cv1, .int .i64 ((t + k : Nat) : Int), .slice Ak ls.length ck, .int .u64 x.next]) (cs' := #[.slice Av1 x.queue.length cv1, .int .i64 ((t + k : Nat) : Int), .slice Ak ls.length ck, .int .u64 x.next]) H rfl (by kernel_rfl) (by kernel_rfl) (by kernel_rfl) fun wc H => ?_
            have hN : tickN block (x.queue.drop t) (4096 - x.list.length) = k := by first | exact tick_stop hk (.inl (by omega)) | exact tick_stop hk (.inr (.inr (by omega))) | exact tick_stop hk (.inr (.inl ⟨_, hg_x1, by omega⟩))
            exact run_ret (v := .tuple #[.agg #[.slice Av1 x.queue.length cv1, .int .i64 ((t + k : Nat) : Int), .slice Ak ls.length ck, .int .u64 x.next], .int .i64 0]) (by kernel_rfl) (by kernel_rfl) (resN Try.results21 (vs := [.agg #[.slice Av1 x.queue.length cv1, .int .i64 ((t + k : Nat) : Int), .slice Ak ls.length ck, .int .u64 x.next], .int .i64 0]) (by simp) ⟨rv_cell (H.blk 3 rfl) (by kernel_rfl) (by kernel_rfl), rv_tmp (by kernel_rfl), trivial⟩) (by rw [tick_eq ht hm h0b hN hls]; exact ⟨_, _, rfl, H.sel [1, 2] (by decide) rfl⟩)
        · refine run_cond (t := false) (by kernel_rfl) (by kernel_rfl) (fun h => by cases h) (fun _ => ?_)
          refine run_ld (n := 0) (t := 26) (off := 0) (v := .agg #[.slice Av1 x.queue.length cv1, .int .i64 ((t + k : Nat) : Int), .slice Ak ls.length ck, .int .u64 x.next]) H rfl (by kernel_rfl) (by kernel_rfl) (by kernel_rfl) ?_
          refine run_st (n := 3) (t := 26) (off := 0) (v := .agg #[.slice Av1 x.queue.length cv1, .int .i64 ((t + k : Nat) : Int), .slice Ak ls.length ck, .int .u64 x.next]) (cs' := #[.slice Av1 x.queue.length cv1, .int .i64 ((t + k : Nat) : Int), .slice Ak ls.length ck, .int .u64 x.next]) H rfl (by kernel_rfl) (by kernel_rfl) (by kernel_rfl) fun wc H => ?_
          have hN : tickN block (x.queue.drop t) (4096 - x.list.length) = k := by first | exact tick_stop hk (.inl (by omega)) | exact tick_stop hk (.inr (.inr (by omega))) | exact tick_stop hk (.inr (.inl ⟨_, hg_x1, by omega⟩))
          exact run_ret (v := .tuple #[.agg #[.slice Av1 x.queue.length cv1, .int .i64 ((t + k : Nat) : Int), .slice Ak ls.length ck, .int .u64 x.next], .int .i64 0]) (by kernel_rfl) (by kernel_rfl) (resN Try.results21 (vs := [.agg #[.slice Av1 x.queue.length cv1, .int .i64 ((t + k : Nat) : Int), .slice Ak ls.length ck, .int .u64 x.next], .int .i64 0]) (by simp) ⟨rv_cell (H.blk 3 rfl) (by kernel_rfl) (by kernel_rfl), rv_tmp (by kernel_rfl), trivial⟩) (by rw [tick_eq ht hm h0b hN hls]; exact ⟨_, _, rfl, H.sel [1, 2] (by decide) rfl⟩)
      · refine run_lit (.bool false) (by kernel_rfl) (by kernel_rfl) ?_
        refine run_cond (t := false) (by kernel_rfl) (by kernel_rfl) (fun h => by cases h) (fun _ => ?_)
        refine run_ld (n := 0) (t := 26) (off := 0) (v := .agg #[.slice Av1 x.queue.length cv1, .int .i64 ((t + k : Nat) : Int), .slice Ak ls.length ck, .int .u64 x.next]) H rfl (by kernel_rfl) (by kernel_rfl) (by kernel_rfl) ?_
        refine run_st (n := 3) (t := 26) (off := 0) (v := .agg #[.slice Av1 x.queue.length cv1, .int .i64 ((t + k : Nat) : Int), .slice Ak ls.length ck, .int .u64 x.next]) (cs' := #[.slice Av1 x.queue.length cv1, .int .i64 ((t + k : Nat) : Int), .slice Ak ls.length ck, .int .u64 x.next]) H rfl (by kernel_rfl) (by kernel_rfl) (by kernel_rfl) fun wc H => ?_
        have hN : tickN block (x.queue.drop t) (4096 - x.list.length) = k := by first | exact tick_stop hk (.inl (by omega)) | exact tick_stop hk (.inr (.inr (by omega))) | exact tick_stop hk (.inr (.inl ⟨_, hg_x1, by omega⟩))
        exact run_ret (v := .tuple #[.agg #[.slice Av1 x.queue.length cv1, .int .i64 ((t + k : Nat) : Int), .slice Ak ls.length ck, .int .u64 x.next], .int .i64 0]) (by kernel_rfl) (by kernel_rfl) (resN Try.results21 (vs := [.agg #[.slice Av1 x.queue.length cv1, .int .i64 ((t + k : Nat) : Int), .slice Ak ls.length ck, .int .u64 x.next], .int .i64 0]) (by simp) ⟨rv_cell (H.blk 3 rfl) (by kernel_rfl) (by kernel_rfl), rv_tmp (by kernel_rfl), trivial⟩) (by rw [tick_eq ht hm h0b hN hls]; exact ⟨_, _, rfl, H.sel [1, 2] (by decide) rfl⟩)
end Go.Proofs.Ythmajhdemooecaa
