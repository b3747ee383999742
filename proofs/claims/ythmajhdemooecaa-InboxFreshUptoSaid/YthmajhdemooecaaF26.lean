/- The walk of InboxFresh. -/
import Derived.Test.YthmajhdemooecaaF25
import Derived.Test.YthmajhdemooecaaXJ
import Derived.Test.YthmajhdemooecaaP1
namespace Go.Proofs.Ythmajhdemooecaa
open Go.PM Go.RowKit
set_option linter.unusedVariables false
set_option linter.unusedSimpArgs false
attribute [local irreducible] adv advD advF fuel

theorem pf5 : plainFn Try.prog 5 = true := by kernel_rfl

theorem erase_insert {α : Type} {c : α} : ∀ {L : List α} {k : Nat}, L[k]? = some c → (L.eraseIdx k).insertIdx k c = L
  | [], k, h => by simp at h
  | a :: L, 0, h => by simp at h; subst h; rfl
  | a :: L, k + 1, h => by
    simp only [List.getElem?_cons_succ] at h
    simp only [List.eraseIdx_cons_succ, List.insertIdx_succ_cons]
    rw [erase_insert h]
/-- A piece of a list, ahead of the others and back. -/
theorem HS.at {w0 : World} {L : List Ck} {c : Ck} {k : Nat} (hk : L[k]? = some c) : ∃ M, (∀ w, HS w0 w L → HS w0 w (c :: M)) ∧ ∀ w, HS w0 w (c :: M) → HS w0 w L := by
  refine ⟨L.eraseIdx k, fun w H => H.pick k hk, fun w H => ?_⟩
  have hlt := (List.getElem?_eq_some_iff.1 hk).1
  have H := HS.unpick k (by rw [List.length_eraseIdx_of_lt hlt]; omega) H
  rwa [erase_insert hk] at H

theorem spoil_in {w0 w : World} {L : List Ck} {k : Nat} {e : TypeId} {sz n j : Nat} {v : Value} (H : HS w0 w L) (hk : L[k]? = some (Ck.lrow 5 e sz v n)) (hj : j < n) (hsz : 0 < sz) :
    ∃ g cap cur u, v = .slice (some ⟨g, 0, none⟩) n cap ∧ Blk w g e cur ∧ n ≤ cap ∧ cur.size = cap * sz ∧ cur[j * sz + (sz - 1)]? = some u ∧ (∃ A m c, u = .slice A m c) ∧
      ∀ x : Int, Calls Try.prog 20 #[u, .int .u8 x] w fun e' w' => e' = .returned (.tuple #[]) ∧ HS w0 w' L := by
  obtain ⟨M, hto, hback⟩ := HS.at (w0 := w0) hk
  obtain ⟨g, cap, cur, u, rfl, hb, hnc, hcs, hu, hor⟩ := (hto w H).lrow_at hj hsz
  refine ⟨g, cap, cur, u, rfl, hb, hnc, hcs, hu, ?_⟩
  rcases hor with rfl | ⟨g2, n2, cap2, cur2, rfl, h1, h2, h3, h4, H2, hb2⟩
  · exact ⟨⟨_, _, _, rfl⟩, fun x => spoil20_nil H⟩
  · exact ⟨⟨_, _, _, rfl⟩, fun x => (spoil20_calls H2 h4 h1 h2 h3).mono fun e' w' ⟨he, cur3, hc3, H3⟩ => ⟨he, hback w' (hb2 w' cur3 hc3 H3)⟩⟩

theorem nil_in {w0 w : World} {L : List Ck} {k : Nat} {e : TypeId} {n j g cap : Nat} (H : HS w0 w L) (hk : L[k]? = some (Ck.lrow 5 e 1 (.slice (some ⟨g, 0, none⟩) n cap) n)) (hj : j < n) :
    ∃ cur, Blk w g e cur ∧ n ≤ cur.size ∧ HS w0 (putBlk w g e (cur.setIfInBounds (0 + j * 1) (.slice none 0 0))) L := by
  obtain ⟨M, hto, hback⟩ := HS.at (w0 := w0) hk
  obtain ⟨g', cap', cur, u, he, hb, hnc, hcs, -⟩ := (hto w H).lrow_at hj (by decide)
  injection he with h1 h2 h3
  injection h1 with h1
  injection h1 with h1
  subst h1 h3
  exact ⟨cur, hb, by omega, hback _ ((hto w H).lrow_nil hb hj)⟩

theorem bytesT_spare {w : World} {S : Nat → Prop} {x : Bytes} {v : Value} (h : bytesT.K w S x [v]) (h0 : ¬ S 0) (hx : x.length ≤ 137438953469) : Spare 5 w S v := by
  obtain ⟨v', he, -, h2⟩ := h
  simp only [List.cons.injEq, and_true] at he
  subst he
  rcases h2 with h2 | h2
  · exact absurd h2.1 h0
  · exact ⟨_, hx, h2⟩
theorem fresh_in {w w' : World} {y : Inbox} {vq vl : Value} (h : HS w w' [Ck.own bytesT 27 vl y.list, Ck.own delT 31 vq y.queue]) (hm : y.may = true) (hz : 0 < w.heap.size) :
    HS w w' [Ck.lrow 5 27 1 vl y.list.length, Ck.lrow 5 31 2 vq y.queue.length] := by
  obtain ⟨h1, h2, h3, h4, h5, h6⟩ := may_spec hm
  have H := h.lrow (eb := 5) hz (by decide) fun S x c hx hK h0 u hu => by
    obtain ⟨v, rfl, -⟩ := bytesT_open hK
    simp [bytesT, Ty.bytes] at hu
    subst hu
    exact bytesT_spare hK h0 (by have := h6 x hx; omega)
  have H := ((H.pick 1 rfl).lrow (eb := 5) hz (by decide) fun S x c hx hK h0 u hu => by
    obtain ⟨c1, c2, rfl, ⟨rfl, -⟩, hK⟩ := hK
    obtain ⟨v, rfl, -⟩ := bytesT_open hK
    have hu : some v = some u := hu
    injection hu with hu
    subst hu
    exact bytesT_spare hK h0 (by have := okQ_short h5 x hx; simp only; omega)).swap
  exact H

set_option maxHeartbeats 4000000 in
theorem fresh5_calls {x : Inbox} {vq vl vm : Value} {m : Bytes} {ablock ato aam : Int} {w : World} (hx : InArg w x vq vl) (hm : Sl Ty.u8 w Any m vm) (nm : small m.length) (hab : IntKind.i64.wrap ablock = ablock) :
    Calls Try.prog 5 #[.agg #[vq, .int .i64 x.taken, vl, .int .u64 x.next], .agg #[.int .i64 ablock, vm, .int .u64 ato, .int .u64 aam]] w fun e w' => e = .returned (.bool true) ∧ Ext w w' := by
  have H := HS.refl w
  have hnq := hx.nq
  have hnl := hx.nl
  unfold small at hnq hnl
  obtain ⟨Aqx, cqx, rfl⟩ := hx.q.form
  obtain ⟨Alx, clx, rfl⟩ := hx.l.form
  obtain ⟨Am, cm, rfl⟩ := hm.form
  refine calls_run Try.func5 (by kernel_rfl) ?_
  refine run_box (t := 26) (v := .agg #[.slice Aqx x.queue.length cqx, .int .i64 x.taken, .slice Alx x.list.length clx, .int .u64 x.next]) H (by kernel_rfl) (by kernel_rfl) fun b1 wc H => ?_
  refine run_box (t := 29) (v := .agg #[.int .i64 ablock, .slice Am m.length cm, .int .u64 ato, .int .u64 aam]) H (by kernel_rfl) (by kernel_rfl) fun b2 wc H => ?_
  refine run_drawF H follows (by kernel_rfl) fun wD UD hE H => ?_
  have HD := H
  refine robF_ld (n := 2) (t := 26) (off := 0) (v := .agg #[.slice Aqx x.queue.length cqx, .int .i64 x.taken, .slice Alx x.list.length clx, .int .u64 x.next]) HD rfl (by kernel_rfl) (by kernel_rfl) (by kernel_rfl) (by kernel_rfl) ?_
  refine robF_call (f := 18) (args := #[.agg #[.slice Aqx x.queue.length cqx, .int .i64 x.taken, .slice Alx x.list.length clx, .int .u64 x.next]]) H (by kernel_rfl) (by kernel_rfl) pf18 fun wG UG hG HG => ⟨_, copy18_calls (hx.ext HG.below), fun e wc ⟨v1, v2, he, hH⟩ => ⟨_, he, hH.below, ?_⟩⟩
  replace H := HG.join hH
  clear hH
  obtain ⟨Av2, cv2, rfl⟩ := (H.sl 0 rfl).form
  obtain ⟨Av1, cv1, rfl⟩ := (H.sl 1 rfl).form
  have H := H.pick 2 rfl
  refine robF_ld (n := 1) (t := 27) (off := 1) (v := .slice Am m.length cm) HD rfl (by kernel_rfl) (by kernel_rfl) (by kernel_rfl) (by kernel_rfl) ?_
  refine robF_call (f := 19) (args := #[.slice Am m.length cm]) H (by kernel_rfl) (by kernel_rfl) pf19 fun wG UG hG HG => ⟨_, copy19_calls (hm.ext HG.below) (by assumption), fun e wc ⟨v3, he, hH⟩ => ⟨_, he, hH.below, ?_⟩⟩
  replace H := HG.join hH
  clear hH
  obtain ⟨Av3, cv3, rfl⟩ := (H.sl 0 rfl).form
  have H := H.pick 1 rfl
  refine robF_room (t := 26) (v := .agg #[.slice none 0 0, .int .i64 0, .slice none 0 0, .int .u64 0]) H (by kernel_rfl) (by kernel_rfl) fun b3 wc UG wF hG H => ?_
  refine robF_out H (by kernel_rfl) fun H => ?_
  refine rob_st (n := 0) (t := 26) (off := 0) (v := .agg #[.slice Av1 x.queue.length cv1, .int .i64 x.taken, .slice Av2 x.list.length cv2, .int .u64 x.next]) (cs' := #[.slice Av1 x.queue.length cv1, .int .i64 x.taken, .slice Av2 x.list.length cv2, .int .u64 x.next]) H rfl (by kernel_rfl) (by kernel_rfl) (by kernel_rfl) (by kernel_rfl) fun wc H => ?_
  refine rob_done (by kernel_rfl) ?_
  refine run_ld (n := 0) (t := 26) (off := 0) (v := .agg #[.slice Av1 x.queue.length cv1, .int .i64 x.taken, .slice Av2 x.list.length cv2, .int .u64 x.next]) H rfl (by kernel_rfl) (by kernel_rfl) (by kernel_rfl) ?_
  refine run_ld (n := 4) (t := 3) (off := 0) (v := .int .i64 ablock) H rfl (by kernel_rfl) (by kernel_rfl) (by kernel_rfl) ?_
  obtain ⟨y1, er_y1, hy_y1⟩ : ∃ zz ee, x.enq ablock m = (zz, ee) := ⟨_, _, rfl⟩
  have hy1m : y1.may = true := by have h := enq_may x ablock m; rw [hy_y1] at h; exact h
  have hz_y1 := may_le hy1m
  refine run_call (f := 10) (args := #[.agg #[.slice Av1 x.queue.length cv1, .int .i64 x.taken, .slice Av2 x.list.length cv2, .int .u64 x.next], .int .i64 ablock, .slice Av3 m.length cv3]) (by kernel_rfl) (by kernel_rfl) pf10 ((calls_ret (enq10_calls (inarg_sm (H.sl 3 rfl) (H.sl 2 rfl) hx.sm) (block := ablock) (by first | rfl | assumption | exact wrap_wrap _) (H.sl 1 rfl) (by first | assumption | exact nml _ (List.mem_of_getElem? (by assumption)) | (show _ ≤ 137438953472; decide) | (unfold small; first | omega | (rw [writeP_len]; decide)))) hy_y1)) fun e wc ⟨vq_y1, vl_y1, he, hH⟩ => ⟨_, he, ?_⟩
  have hH := fresh_in hH hy1m (Nat.lt_of_le_of_lt (Nat.zero_le _) (H.blk 0 rfl).lt)
  replace H := H.join hH
  clear hH
  obtain ⟨Aly1, cly1, rfl⟩ : ∃ A c, vl_y1 = .slice A y1.list.length c := H.lrow_form
  obtain ⟨Aqy1, cqy1, rfl⟩ : ∃ A c, vq_y1 = .slice A y1.queue.length c := (H.pick 1 rfl).lrow_form
  refine run_alloc (t := 26) (v := .agg #[.slice none 0 0, .int .i64 0, .slice none 0 0, .int .u64 0]) H (by kernel_rfl) (by kernel_rfl) fun b4 wc H => ?_
  refine run_st (n := 0) (t := 26) (off := 0) (v := .agg #[.slice Aqy1 y1.queue.length cqy1, .int .i64 y1.taken, .slice Aly1 y1.list.length cly1, .int .u64 y1.next]) (cs' := #[.slice Aqy1 y1.queue.length cqy1, .int .i64 y1.taken, .slice Aly1 y1.list.length cly1, .int .u64 y1.next]) H rfl (by kernel_rfl) (by kernel_rfl) (by kernel_rfl) fun wc H => ?_
  refine run_ld (n := 3) (t := 26) (off := 0) (v := .agg #[.slice Av1 x.queue.length cv1, .int .i64 x.taken, .slice Av2 x.list.length cv2, .int .u64 x.next]) H rfl (by kernel_rfl) (by kernel_rfl) (by kernel_rfl) ?_
  obtain ⟨y2, er_y2, hy_y2⟩ : ∃ zz ee, x.post m = (zz, ee) := ⟨_, _, rfl⟩
  have hy2m : y2.may = true := by have h := post_may x m; rw [hy_y2] at h; exact h
  have hz_y2 := may_le hy2m
  refine run_call (f := 13) (args := #[.agg #[.slice Av1 x.queue.length cv1, .int .i64 x.taken, .slice Av2 x.list.length cv2, .int .u64 x.next], .slice Av3 m.length cv3]) (by kernel_rfl) (by kernel_rfl) pf13 ((calls_ret (post13_calls (inarg_sm (H.sl 6 rfl) (H.sl 5 rfl) hx.sm) (H.sl 4 rfl)) hy_y2)) fun e wc ⟨vq_y2, vl_y2, he, hH⟩ => ⟨_, he, ?_⟩
  have hH := fresh_in hH hy2m (Nat.lt_of_le_of_lt (Nat.zero_le _) (H.blk 0 rfl).lt)
  replace H := H.join hH
  clear hH
  obtain ⟨Aly2, cly2, rfl⟩ : ∃ A c, vl_y2 = .slice A y2.list.length c := H.lrow_form
  obtain ⟨Aqy2, cqy2, rfl⟩ : ∃ A c, vq_y2 = .slice A y2.queue.length c := (H.pick 1 rfl).lrow_form
  refine run_alloc (t := 26) (v := .agg #[.slice none 0 0, .int .i64 0, .slice none 0 0, .int .u64 0]) H (by kernel_rfl) (by kernel_rfl) fun b5 wc H => ?_
  refine run_st (n := 0) (t := 26) (off := 0) (v := .agg #[.slice Aqy2 y2.queue.length cqy2, .int .i64 y2.taken, .slice Aly2 y2.list.length cly2, .int .u64 y2.next]) (cs' := #[.slice Aqy2 y2.queue.length cqy2, .int .i64 y2.taken, .slice Aly2 y2.list.length cly2, .int .u64 y2.next]) H rfl (by kernel_rfl) (by kernel_rfl) (by kernel_rfl) fun wc H => ?_
  refine run_ld (n := 6) (t := 26) (off := 0) (v := .agg #[.slice Av1 x.queue.length cv1, .int .i64 x.taken, .slice Av2 x.list.length cv2, .int .u64 x.next]) H rfl (by kernel_rfl) (by kernel_rfl) (by kernel_rfl) ?_
  refine run_ld (n := 10) (t := 3) (off := 0) (v := .int .i64 ablock) H rfl (by kernel_rfl) (by kernel_rfl) (by kernel_rfl) ?_
  obtain ⟨y3, er_y3, hy_y3⟩ : ∃ zz ee, x.tick ablock = (zz, ee) := ⟨_, _, rfl⟩
  have hy3m : y3.may = true := by have h := tick_may x ablock; rw [hy_y3] at h; exact h
  have hz_y3 := may_le hy3m
  refine run_call (f := 14) (args := #[.agg #[.slice Av1 x.queue.length cv1, .int .i64 x.taken, .slice Av2 x.list.length cv2, .int .u64 x.next], .int .i64 ablock]) (by kernel_rfl) (by kernel_rfl) pf14 ((calls_ret (tick14_calls (inarg_sm (H.sl 9 rfl) (H.sl 8 rfl) hx.sm) (block := ablock) (by first | rfl | assumption | exact wrap_wrap _)) hy_y3)) fun e wc ⟨vq_y3, vl_y3, he, hH⟩ => ⟨_, he, ?_⟩
  have hH := fresh_in hH hy3m (Nat.lt_of_le_of_lt (Nat.zero_le _) (H.blk 0 rfl).lt)
  replace H := H.join hH
  clear hH
  obtain ⟨Aly3, cly3, rfl⟩ : ∃ A c, vl_y3 = .slice A y3.list.length c := H.lrow_form
  obtain ⟨Aqy3, cqy3, rfl⟩ : ∃ A c, vq_y3 = .slice A y3.queue.length c := (H.pick 1 rfl).lrow_form
  refine run_alloc (t := 26) (v := .agg #[.slice none 0 0, .int .i64 0, .slice none 0 0, .int .u64 0]) H (by kernel_rfl) (by kernel_rfl) fun b6 wc H => ?_
  refine run_st (n := 0) (t := 26) (off := 0) (v := .agg #[.slice Aqy3 y3.queue.length cqy3, .int .i64 y3.taken, .slice Aly3 y3.list.length cly3, .int .u64 y3.next]) (cs' := #[.slice Aqy3 y3.queue.length cqy3, .int .i64 y3.taken, .slice Aly3 y3.list.length cly3, .int .u64 y3.next]) H rfl (by kernel_rfl) (by kernel_rfl) (by kernel_rfl) fun wc H => ?_
  refine run_ld (n := 6) (t := 23) (off := 2) (v := .slice Aly1 y1.list.length cly1) H rfl (by kernel_rfl) (by kernel_rfl) (by kernel_rfl) ?_
  refine run_ld (n := 3) (t := 23) (off := 2) (v := .slice Aly2 y2.list.length cly2) H rfl (by kernel_rfl) (by kernel_rfl) (by kernel_rfl) ?_
  refine run_ld (n := 0) (t := 23) (off := 2) (v := .slice Aly3 y3.list.length cly3) H rfl (by kernel_rfl) (by kernel_rfl) (by kernel_rfl) ?_
  refine run_bs (e := 23) (len := 3) (cells := #[.slice Aly1 y1.list.length cly1, .slice Aly2 y2.list.length cly2, .slice Aly3 y3.list.length cly3]) H (by kernel_rfl) (by kernel_rfl) fun bb1 wc H => ?_
  obtain ⟨L, hL⟩ : ∃ L : List Ck, L = [Ck.blk bb1 23 #[.slice Aly1 y1.list.length cly1, .slice Aly2 y2.list.length cly2, .slice Aly3 y3.list.length cly3], Ck.blk b6 26 #[.slice Aqy3 y3.queue.length cqy3, .int .i64 y3.taken, .slice Aly3 y3.list.length cly3, .int .u64 y3.next], Ck.lrow 5 27 1 (.slice Aly3 y3.list.length cly3) y3.list.length, Ck.lrow 5 31 2 (.slice Aqy3 y3.queue.length cqy3) y3.queue.length, Ck.blk b5 26 #[.slice Aqy2 y2.queue.length cqy2, .int .i64 y2.taken, .slice Aly2 y2.list.length cly2, .int .u64 y2.next], Ck.lrow 5 27 1 (.slice Aly2 y2.list.length cly2) y2.list.length, Ck.lrow 5 31 2 (.slice Aqy2 y2.queue.length cqy2) y2.queue.length, Ck.blk b4 26 #[.slice Aqy1 y1.queue.length cqy1, .int .i64 y1.taken, .slice Aly1 y1.list.length cly1, .int .u64 y1.next], Ck.lrow 5 27 1 (.slice Aly1 y1.list.length cly1) y1.list.length, Ck.lrow 5 31 2 (.slice Aqy1 y1.queue.length cqy1) y1.queue.length, Ck.blk b3 26 #[.slice Av1 x.queue.length cv1, .int .i64 x.taken, .slice Av2 x.list.length cv2, .int .u64 x.next], Ck.own Ty.u8 5 (.slice Av3 m.length cv3) m, Ck.own bytesT 27 (.slice Av2 x.list.length cv2) x.list, Ck.own delT 31 (.slice Av1 x.queue.length cv1) x.queue, Ck.blk b2 29 #[.int .i64 ablock, .slice Am m.length cm, .int .u64 ato, .int .u64 aam], Ck.blk b1 26 #[.slice Aqx x.queue.length cqx, .int .i64 x.taken, .slice Alx x.list.length clx, .int .u64 x.next]] := ⟨_, rfl⟩
  have H : HS w wc L := by rw [hL]; exact H
  have hLb : L[0]? = some (Ck.blk bb1 23 #[.slice Aly1 y1.list.length cly1, .slice Aly2 y2.list.length cly2, .slice Aly3 y3.list.length cly3]) := by rw [hL]; rfl
  have hLl0 : L[8]? = some (Ck.lrow 5 27 1 (.slice Aly1 y1.list.length cly1) y1.list.length) := by rw [hL]; rfl
  have hLl1 : L[5]? = some (Ck.lrow 5 27 1 (.slice Aly2 y2.list.length cly2) y2.list.length) := by rw [hL]; rfl
  have hLl2 : L[2]? = some (Ck.lrow 5 27 1 (.slice Aly3 y3.list.length cly3) y3.list.length) := by rw [hL]; rfl
  have hli : ∀ i : Nat, i < 3 → ∃ (A : Option Addr) (n c k : Nat), (#[.slice Aly1 y1.list.length cly1, .slice Aly2 y2.list.length cly2, .slice Aly3 y3.list.length cly3] : Array Value)[i]? = some (.slice A n c) ∧ L[k]? = some (Ck.lrow 5 27 1 (.slice A n c) n) ∧ n ≤ 4096 := by
    intro i hi
    obtain rfl | rfl | rfl : i = 0 ∨ i = 1 ∨ i = 2 := by omega
    · exact ⟨_, _, _, _, rfl, hLl0, by omega⟩
    · exact ⟨_, _, _, _, rfl, hLl1, by omega⟩
    · exact ⟨_, _, _, _, rfl, hLl2, by omega⟩
  refine run_loop (fun mm a w' => ∃ i, mm = 3 - i ∧ i ≤ 3 ∧ (∃ u, a = env 131 u [(2, .pointer (some ⟨b1, 0, none⟩)), (3, .pointer (some ⟨b2, 0, none⟩)), (5, .pointer (some ⟨b3, 0, none⟩)), (6, .slice Av3 m.length cv3), (7, .pointer (some ⟨b4, 0, none⟩)), (13, .slice (some ⟨bb1, 0, none⟩) 3 3), (14, .int .i64 (i : Int))]) ∧ HS w w' L) _ (by kernel_rfl) ⟨0, rfl, Nat.zero_le _, env_intro (by kernel_rfl) (by kernel_rfl) (by kernel_rfl), H⟩ ?_
  clear H
  rintro mm a w' ⟨i, rfl, hi, ⟨u, rfl⟩, H⟩ next1
  refine run_if (p := (i : Int) < 3) (by kernel_rfl) (by kernel_rfl) (fun hc => ?_) (fun hc => ?_)
  · obtain ⟨A, n, c, k, hci, hLk, hn⟩ := hli i (by omega)
    refine run_loop (fun mm a w' => ∃ j, mm = n - j ∧ j ≤ n ∧ (∃ u, a = env 131 u [(2, .pointer (some ⟨b1, 0, none⟩)), (3, .pointer (some ⟨b2, 0, none⟩)), (5, .pointer (some ⟨b3, 0, none⟩)), (6, .slice Av3 m.length cv3), (7, .pointer (some ⟨b4, 0, none⟩)), (13, .slice (some ⟨bb1, 0, none⟩) 3 3), (14, .int .i64 (i : Int)), (15, .int .i64 (j : Int))]) ∧ HS w w' L) _ (by kernel_rfl) ⟨0, rfl, Nat.zero_le _, env_intro (by kernel_rfl) (by kernel_rfl) (by kernel_rfl), H⟩ ?_
    clear H
    rintro mm a w' ⟨j, rfl, hj, ⟨u, rfl⟩, H⟩ next2
    refine run_val (by kernel_rfl) (op_indexN (t := 52) (e := 23) (sz := 1) (b := bb1) (off := 0) (n := 3) (c := 3) (k := .i64) (i := i) (by kernel_rfl) (by kernel_rfl) (by kernel_rfl) (by omega)) ?_
    refine run_val (v := .slice A n c) (by kernel_rfl) (op_load1 (t := 23) (b := bb1) (off := 0 + i * 1) (by kernel_rfl) (by kernel_rfl) (H.blk _ hLb) (by rw [Nat.zero_add, Nat.mul_one]; exact hci)) ?_
    refine run_if (p := (j : Int) < (n : Int)) (by kernel_rfl) (by kernel_rfl) (fun hc => ?_) (fun hc => ?_)
    · refine run_val (by kernel_rfl) (op_indexN (t := 52) (e := 23) (sz := 1) (b := bb1) (off := 0) (n := 3) (c := 3) (k := .i64) (i := i) (by kernel_rfl) (by kernel_rfl) (by kernel_rfl) (by omega)) ?_
      refine run_val (v := .slice A n c) (by kernel_rfl) (op_load1 (t := 23) (b := bb1) (off := 0 + i * 1) (by kernel_rfl) (by kernel_rfl) (H.blk _ hLb) (by rw [Nat.zero_add, Nat.mul_one]; exact hci)) ?_
      obtain ⟨g, cap, cur, u, hv, hb, hnc, hcs, hu, ⟨Au, mu, cu, rfl⟩, hsp⟩ := spoil_in (j := j) H hLk (by omega) (by decide)
      injection hv with hv1 hv2 hv3
      subst hv1 hv3
      refine run_val (by kernel_rfl) (op_indexN (t := 23) (e := 27) (sz := 1) (b := g) (off := 0) (n := n) (c := c) (k := .i64) (i := j) (by kernel_rfl) (by kernel_rfl) (by kernel_rfl) (by omega)) ?_
      refine run_val (v := .slice Au mu cu) (by kernel_rfl) (op_load1 (t := 27) (b := g) (off := 0 + j * 1) (by kernel_rfl) (by kernel_rfl) hb (by rw [Nat.zero_add]; exact hu)) ?_
      refine run_call (f := 20) (args := #[.slice Au mu cu, .int .u8 5]) (by kernel_rfl) (by kernel_rfl) pf20 (hsp 5) fun e wc ⟨he, H⟩ => ⟨_, he, ?_⟩
      refine run_val (by kernel_rfl) (op_indexN (t := 52) (e := 23) (sz := 1) (b := bb1) (off := 0) (n := 3) (c := 3) (k := .i64) (i := i) (by kernel_rfl) (by kernel_rfl) (by kernel_rfl) (by omega)) ?_
      refine run_val (v := .slice (some ⟨g, 0, none⟩) n c) (by kernel_rfl) (op_load1 (t := 23) (b := bb1) (off := 0 + i * 1) (by kernel_rfl) (by kernel_rfl) (H.blk _ hLb) (by rw [Nat.zero_add, Nat.mul_one]; exact hci)) ?_
      refine run_val (by kernel_rfl) (op_indexN (t := 23) (e := 27) (sz := 1) (b := g) (off := 0) (n := n) (c := c) (k := .i64) (i := j) (by kernel_rfl) (by kernel_rfl) (by kernel_rfl) (by omega)) ?_
      obtain ⟨cur2, hb2, hs2, H⟩ := nil_in (j := j) H hLk (by omega)
      refine run_unit (by kernel_rfl) (op_store1 (t := 27) (b := g) (off := 0 + j * 1) (v := .slice none 0 0) (by kernel_rfl) hb2 (by kernel_rfl) (by omega) rfl rfl) ?_
      refine run_at (by kernel_rfl) (next2 (n - (j + 1)) _ _ (by omega) ⟨j + 1, rfl, by omega, ?_, H⟩)
      rw [← wrap_succ (n := j) (by omega)]
      exact env_intro (by kernel_rfl) (by kernel_rfl) (by kernel_rfl)
    · refine run_at (by kernel_rfl) (next1 (3 - (i + 1)) _ _ (by omega) ⟨i + 1, rfl, by omega, ?_, H⟩)
      rw [← wrap_succ (n := i) (by omega)]
      exact env_intro (by kernel_rfl) (by kernel_rfl) (by kernel_rfl)
  have hLb4 : L[7]? = some (Ck.blk b4 26 #[.slice Aqy1 y1.queue.length cqy1, .int .i64 y1.taken, .slice Aly1 y1.list.length cly1, .int .u64 y1.next]) := by rw [hL]; rfl
  have hLq : L[9]? = some (Ck.lrow 5 31 2 (.slice Aqy1 y1.queue.length cqy1) y1.queue.length) := by rw [hL]; rfl
  refine run_loop (fun mm a w' => ∃ i, mm = y1.queue.length - i ∧ i ≤ y1.queue.length ∧ (∃ u, a = env 131 u [(2, .pointer (some ⟨b1, 0, none⟩)), (3, .pointer (some ⟨b2, 0, none⟩)), (5, .pointer (some ⟨b3, 0, none⟩)), (6, .slice Av3 m.length cv3), (7, .pointer (some ⟨b4, 0, none⟩)), (16, .int .i64 (i : Int))]) ∧ HS w w' L) _ (by kernel_rfl) ⟨0, rfl, Nat.zero_le _, env_intro (by kernel_rfl) (by kernel_rfl) (by kernel_rfl), H⟩ ?_
  clear H
  rintro mm a w' ⟨i, rfl, hi, ⟨u, rfl⟩, H⟩ next1
  refine run_ld (n := 7) (t := 22) (off := 0) (v := .slice Aqy1 y1.queue.length cqy1) H hLb4 (by kernel_rfl) (by kernel_rfl) (by kernel_rfl) ?_
  refine run_if (p := (i : Int) < (y1.queue.length : Int)) (by kernel_rfl) (by kernel_rfl) (fun hc => ?_) (fun hc => ?_)
  · refine run_ld (n := 7) (t := 22) (off := 0) (v := .slice Aqy1 y1.queue.length cqy1) H hLb4 (by kernel_rfl) (by kernel_rfl) (by kernel_rfl) ?_
    obtain ⟨g, cap, cur, u, hv, hb, hnc, hcs, hu, ⟨Au, mu, cu, rfl⟩, hsp⟩ := spoil_in (j := i) H hLq (by omega) (by decide)
    injection hv with hv1 hv2 hv3
    subst hv1 hv3
    refine run_val (by kernel_rfl) (op_indexN (t := 22) (e := 31) (sz := 2) (b := g) (off := 0) (n := y1.queue.length) (c := cqy1) (k := .i64) (i := i) (by kernel_rfl) (by kernel_rfl) (by kernel_rfl) (by omega)) ?_
    refine run_val (v := .slice Au mu cu) (by kernel_rfl) (op_load1 (t := 27) (b := g) (off := 0 + i * 2 + 1) (by kernel_rfl) (by kernel_rfl) hb (by rw [Nat.zero_add]; exact hu)) ?_
    refine run_call (f := 20) (args := #[.slice Au mu cu, .int .u8 6]) (by kernel_rfl) (by kernel_rfl) pf20 (hsp 6) fun e wc ⟨he, H⟩ => ⟨_, he, ?_⟩
    refine run_at (by kernel_rfl) (next1 (y1.queue.length - (i + 1)) _ _ (by omega) ⟨i + 1, rfl, by omega, ?_, H⟩)
    rw [← wrap_succ (n := i) (by omega)]
    exact env_intro (by kernel_rfl) (by kernel_rfl) (by kernel_rfl)
  clear next1 hi
  rw [hL] at H
  refine run_ld (n := 10) (t := 26) (off := 0) (v := .agg #[.slice Av1 x.queue.length cv1, .int .i64 x.taken, .slice Av2 x.list.length cv2, .int .u64 x.next]) H rfl (by kernel_rfl) (by kernel_rfl) (by kernel_rfl) ?_
  refine run_ld (n := 14) (t := 3) (off := 0) (v := .int .i64 ablock) H rfl (by kernel_rfl) (by kernel_rfl) (by kernel_rfl) ?_
  obtain ⟨y4, er_y4, hy_y4⟩ : ∃ zz ee, x.tick ablock = (zz, ee) := ⟨_, _, rfl⟩
  have hy4m : y4.may = true := by have h := tick_may x ablock; rw [hy_y4] at h; exact h
  have hz_y4 := may_le hy4m
  refine run_call (f := 14) (args := #[.agg #[.slice Av1 x.queue.length cv1, .int .i64 x.taken, .slice Av2 x.list.length cv2, .int .u64 x.next], .int .i64 ablock]) (by kernel_rfl) (by kernel_rfl) pf14 ((calls_ret (tick14_calls (inarg_sm (H.sl 13 rfl) (H.sl 12 rfl) hx.sm) (block := ablock) (by first | rfl | assumption | exact wrap_wrap _)) hy_y4)) fun e wc ⟨vq_y4, vl_y4, he, hH⟩ => ⟨_, he, ?_⟩
  replace H := H.join hH
  clear hH
  obtain ⟨Aly4, cly4, rfl⟩ : ∃ A c, vl_y4 = .slice A y4.list.length c := (H.sl 0 rfl).form
  obtain ⟨Aqy4, cqy4, rfl⟩ : ∃ A c, vq_y4 = .slice A y4.queue.length c := (H.sl 1 rfl).form
  refine run_alloc (t := 26) (v := .agg #[.slice none 0 0, .int .i64 0, .slice none 0 0, .int .u64 0]) H (by kernel_rfl) (by kernel_rfl) fun b7 wc H => ?_
  refine run_st (n := 0) (t := 26) (off := 0) (v := .agg #[.slice Aqy4 y4.queue.length cqy4, .int .i64 y4.taken, .slice Aly4 y4.list.length cly4, .int .u64 y4.next]) (cs' := #[.slice Aqy4 y4.queue.length cqy4, .int .i64 y4.taken, .slice Aly4 y4.list.length cly4, .int .u64 y4.next]) H rfl (by kernel_rfl) (by kernel_rfl) (by kernel_rfl) fun wc H => ?_
  refine run_ld (n := 18) (t := 26) (off := 0) (v := .agg #[.slice Aqx x.queue.length cqx, .int .i64 x.taken, .slice Alx x.list.length clx, .int .u64 x.next]) H rfl (by kernel_rfl) (by kernel_rfl) (by kernel_rfl) ?_
  refine run_ld (n := 17) (t := 3) (off := 0) (v := .int .i64 ablock) H rfl (by kernel_rfl) (by kernel_rfl) (by kernel_rfl) ?_
  obtain ⟨y5, er_y5, hy_y5⟩ : ∃ zz ee, x.tick ablock = (zz, ee) := ⟨_, _, rfl⟩
  have hy5m : y5.may = true := by have h := tick_may x ablock; rw [hy_y5] at h; exact h
  have hz_y5 := may_le hy5m
  refine run_call (f := 21) (args := #[.agg #[.slice Aqx x.queue.length cqx, .int .i64 x.taken, .slice Alx x.list.length clx, .int .u64 x.next], .int .i64 ablock]) (by kernel_rfl) (by kernel_rfl) pf21 ((calls_ret (tick21_calls (hx.ext H.below) (block := ablock) (by first | rfl | assumption | exact wrap_wrap _)) hy_y5)) fun e wc ⟨vq_y5, vl_y5, he, hH⟩ => ⟨_, he, ?_⟩
  replace H := H.join hH
  clear hH
  obtain ⟨Aly5, cly5, rfl⟩ : ∃ A c, vl_y5 = .slice A y5.list.length c := (H.sl 0 rfl).form
  obtain ⟨Aqy5, cqy5, rfl⟩ : ∃ A c, vq_y5 = .slice A y5.queue.length c := (H.sl 1 rfl).form
  refine run_alloc (t := 26) (v := .agg #[.slice none 0 0, .int .i64 0, .slice none 0 0, .int .u64 0]) H (by kernel_rfl) (by kernel_rfl) fun b8 wc H => ?_
  refine run_st (n := 0) (t := 26) (off := 0) (v := .agg #[.slice Aqy5 y5.queue.length cqy5, .int .i64 y5.taken, .slice Aly5 y5.list.length cly5, .int .u64 y5.next]) (cs' := #[.slice Aqy5 y5.queue.length cqy5, .int .i64 y5.taken, .slice Aly5 y5.list.length cly5, .int .u64 y5.next]) H rfl (by kernel_rfl) (by kernel_rfl) (by kernel_rfl) fun wc H => ?_
  refine run_call (f := 9) (args := #[]) (by kernel_rfl) (by kernel_rfl) pf9 (anchored9_calls _) fun e wc ⟨he, hE⟩ => ⟨_, he, ?_⟩
  replace H := H.ext hE
  refine run_lit (.bool true) (by kernel_rfl) (by kernel_rfl) ?_
  refine run_ld (n := 21) (t := 26) (off := 0) (v := .agg #[.slice Aqx x.queue.length cqx, .int .i64 x.taken, .slice Alx x.list.length clx, .int .u64 x.next]) H rfl (by kernel_rfl) (by kernel_rfl) (by kernel_rfl) ?_
  refine run_ld (n := 16) (t := 26) (off := 0) (v := .agg #[.slice Av1 x.queue.length cv1, .int .i64 x.taken, .slice Av2 x.list.length cv2, .int .u64 x.next]) H rfl (by kernel_rfl) (by kernel_rfl) (by kernel_rfl) ?_
  refine run_call (f := 22) (args := #[.agg #[.slice Aqx x.queue.length cqx, .int .i64 x.taken, .slice Alx x.list.length clx, .int .u64 x.next], .agg #[.slice Av1 x.queue.length cv1, .int .i64 x.taken, .slice Av2 x.list.length cv2, .int .u64 x.next]]) (by kernel_rfl) (by kernel_rfl) pf22 (same22_calls (hx.ext H.below) (inarg_sm (H.sl 19 rfl) (H.sl 18 rfl) hx.sm)) fun e wc ⟨he, hE⟩ => ⟨_, he, ?_⟩
  replace H := H.ext hE
  refine run_ask (x = x) (by kernel_rfl) (by kernel_rfl) (fun hc => ?_) (fun hc => ?_)
  · refine run_ld (n := 20) (t := 27) (off := 1) (v := .slice Am m.length cm) H rfl (by kernel_rfl) (by kernel_rfl) (by kernel_rfl) ?_
    refine run_call (f := 23) (args := #[.slice Av3 m.length cv3, .slice Am m.length cm]) (by kernel_rfl) (by kernel_rfl) pf23 (same23_calls (H.sl 17 rfl) (hm.ext H.below)) fun e wc ⟨he, hE⟩ => ⟨_, he, ?_⟩
    replace H := H.ext hE
    refine run_ask (m = m) (by kernel_rfl) (by kernel_rfl) (fun hc => ?_) (fun hc => ?_)
    · refine run_ld (n := 3) (t := 26) (off := 0) (v := .agg #[.slice Aqy4 y4.queue.length cqy4, .int .i64 y4.taken, .slice Aly4 y4.list.length cly4, .int .u64 y4.next]) H rfl (by kernel_rfl) (by kernel_rfl) (by kernel_rfl) ?_
      refine run_ld (n := 0) (t := 26) (off := 0) (v := .agg #[.slice Aqy5 y5.queue.length cqy5, .int .i64 y5.taken, .slice Aly5 y5.list.length cly5, .int .u64 y5.next]) H rfl (by kernel_rfl) (by kernel_rfl) (by kernel_rfl) ?_
      refine run_call (f := 22) (args := #[.agg #[.slice Aqy4 y4.queue.length cqy4, .int .i64 y4.taken, .slice Aly4 y4.list.length cly4, .int .u64 y4.next], .agg #[.slice Aqy5 y5.queue.length cqy5, .int .i64 y5.taken, .slice Aly5 y5.list.length cly5, .int .u64 y5.next]]) (by kernel_rfl) (by kernel_rfl) pf22 (same22_calls (inarg_own (H.sl 5 rfl) (H.sl 4 rfl) hy4m) (inarg_own (H.sl 2 rfl) (H.sl 1 rfl) hy5m)) fun e wc ⟨he, hE⟩ => ⟨_, he, ?_⟩
      replace H := H.ext hE
      refine run_ask (y4 = y5) (by kernel_rfl) (by kernel_rfl) (fun hc => ?_) (fun hc => ?_)
      · have hM : true = decide (er_y4 = er_y5) := (decide_eq_true (by rw [hy_y4] at hy_y5; exact (Prod.mk.inj hy_y5).2)).symm
        exact run_ret (v := .bool (decide (er_y4 = er_y5))) (by kernel_rfl) (by kernel_rfl) (by kernel_rfl) (⟨by rw [hM], H.below⟩)
      · exact absurd (by first | rfl | (rw [hy_y4] at hy_y5; exact (Prod.mk.inj hy_y5).1)) hc
    · refine run_lit (.bool false) (by kernel_rfl) (by kernel_rfl) ?_
      exact absurd (by first | rfl | (rw [hy_y4] at hy_y5; exact (Prod.mk.inj hy_y5).1)) hc
  · refine run_lit (.bool false) (by kernel_rfl) (by kernel_rfl) ?_
    refine run_lit (.bool false) (by kernel_rfl) (by kernel_rfl) ?_
    exact absurd (by first | rfl | (rw [hy_y4] at hy_y5; exact (Prod.mk.inj hy_y5).1)) hc
end Go.Proofs.Ythmajhdemooecaa
