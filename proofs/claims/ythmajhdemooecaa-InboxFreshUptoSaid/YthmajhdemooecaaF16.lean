/- The walk of Post. -/
import Derived.Test.YthmajhdemooecaaF15
import Derived.Test.YthmajhdemooecaaXC
namespace Go.Proofs.Ythmajhdemooecaa
open Go.PM Go.RowKit
set_option linter.unusedVariables false
set_option linter.unusedSimpArgs false
set_option linter.unnecessarySimpa false
attribute [local irreducible] adv advD advF fuel

def kvals (css : Nat → List Value) (ks : List Nat) : List Value := ks.map fun j => (css j).getD 0 undef

/-- The list and what was put behind it, as a row of its own. -/
theorem close_msgs {w0 w : World} {L : List Ck} {b o : Nat} {xs msgs : List Bytes} {css : Nat → List Value} {cs : List Value} {ks : List Nat} {v : Value} (hcs : cs.length = xs.length) (hks : ∀ j ∈ ks, j < msgs.length)
    (h : HS w0 w (Ck.row 27 1 v (xs.length + ks.length) (cs ++ kvals css ks) :: Ck.els bytesT xs cs :: Ck.rowK bytesT b o msgs css :: L)) :
    HS w0 w (Ck.own bytesT 27 v (xs ++ ks.map fun j => msgs.getD j []) :: L) := by
  refine h.merge.merge.map fun S hS => ?_
  obtain ⟨S1, S2, ⟨S3, S4, h1, h2, h3, h4, h5⟩, h6, h7, h8, h9⟩ := hS
  refine ⟨cs ++ kvals css ks, ⟨by rw [List.length_append, List.length_map]; exact h1.1, fun b hb => h7 b (h3 b (h1.2 b hb))⟩, fun j x hj => ?_⟩
  rcases Nat.lt_or_ge j xs.length with hlt | hge
  · rw [List.getElem?_append_left hlt] at hj
    obtain ⟨c, hK, hc⟩ := h2 j x hj
    refine ⟨c, bytesT.mono hK fun k hk => ⟨h7 k (h4 k hk), fun he => h5 k (h1.2 k he) hk⟩, fun i u hi => ?_⟩
    have := hc i u hi
    have hl := (List.getElem?_eq_some_iff.1 this).1
    rw [List.getElem?_append_left hl]; exact this
  · rw [List.getElem?_append_right hge, List.getElem?_map] at hj
    obtain ⟨q, hq, rfl⟩ := Option.map_eq_some_iff.1 hj
    have hqm := hks q (List.mem_of_getElem? hq)
    have hgq : msgs[q]? = some (msgs.getD q []) := by simp [List.getD, List.getElem?_eq_getElem hqm]
    obtain ⟨hK, -⟩ := h6.2 q _ hgq
    obtain ⟨vb, hcv, hb⟩ := bytesT_open hK
    refine ⟨[vb], bytesT.mono (hcv ▸ hK) fun k hk => ⟨h8 k hk, fun he => h9 k (h3 k (h1.2 k he)) hk⟩, fun i u hi => ?_⟩
    cases i with
    | succ i => simp at hi
    | zero =>
      simp at hi; subst hi
      show (cs ++ kvals css ks)[j * 1 + 0]? = _
      rw [Nat.mul_one, Nat.add_zero, List.getElem?_append_right (by omega), hcs]
      unfold kvals
      rw [List.getElem?_map, hq]
      simp [hcv]

theorem runR_end {P : Program} {l : Nat} {B : Act → World → Prop} {σ : List Go.Item × Act} {w : World} (hk : σ.1 = []) (h : B σ.2 w) : RunR P l B σ w := by
  obtain ⟨t, a⟩ := σ
  simp only at hk
  subst hk
  exact runR_nil h

theorem run_retM {fn : Func} {R : Ending → World → Prop} {σ : List Go.Item × Act} {w : World} {v : Value} (hk : isEnd σ = true) (hd : σ.2.defers = []) (hr : (results fn σ.2.tmps).run Try.prog w = .ok v w) (h : R (.returned v) w) : Run Try.prog (PM.bodyPostM Try.prog fn R) σ w :=
  run_end hk (.inl ⟨hd, v, hr, h⟩) (.inl ⟨hd, v, hr, h⟩)

theorem readNumP_nonneg (x : Item) : 0 ≤ (readNumP x).1 := by
  unfold readNumP
  split
  · exact Int.le_refl _
  · exact (num_bound _).1
theorem take_nonneg (b : Bytes) : 0 ≤ (readBatchP b).1.take := by
  unfold readBatchP batchP
  split
  · exact Int.le_refl _
  · split
    · exact Int.le_refl _
    · split
      · split
        · exact Int.le_refl _
        · split
          · exact Int.le_refl _
          · split
            · exact Int.le_refl _
            · split
              · exact Int.le_refl _
              · exact readNumP_nonneg _
      · exact Int.le_refl _

def Inbox.post (x : Inbox) (batch : Bytes) : Inbox × Int :=
  if x.may = false then (.zero, 2) else
  if (readBatchP batch).2 ≠ 0 then (.zero, (readBatchP batch).2) else
  let b := (readBatchP batch).1
  if b.number ≠ x.next ∨ (x.queue.length : Int) - x.taken < b.take then (.zero, 200) else
  let l := x.list ++ ((x.queue.drop x.taken.toNat).take b.take.toNat).map (·.msg) ++ (keptI b.msgs b.msgs.length).map fun j => b.msgs.getD j []
  if 4096 < l.length then (.zero, 4) else (⟨x.queue, ((x.taken.toNat + b.take.toNat : Nat) : Int), l, IntKind.u64.wrap (x.next + 1)⟩, 0)

theorem open_msgs {w0 w : World} {L : List Ck} {A : Option Addr} {c : Nat} {msgs : List Bytes} (H : HS w0 w (Ck.own bytesT 27 (.slice A msgs.length c) msgs :: L)) :
    ∃ b o css, (0 < msgs.length → A = some ⟨b, o, none⟩) ∧ HS w0 w (Ck.rowK bytesT b o msgs css :: L) := by
  rcases Nat.eq_zero_or_pos msgs.length with h0 | hp
  · have : msgs = [] := List.length_eq_zero_iff.1 h0
    subst this
    exact ⟨0, 0, fun _ => [], fun h => absurd h (by simp), H.map fun S hS => ⟨fun h => absurd h (by simp), fun j x hj => by simp at hj⟩⟩
  · obtain ⟨b, o, css, hA, hk⟩ := (H.sl 0 rfl).known hp
    exact ⟨b, o, css, fun _ => hA, H.map fun S hS => hk S (own_sl hS)⟩

theorem run_retD {fn : Func} {R : Ending → World → Prop} {σ : List Go.Item × Act} {w : World} {v : Value} {d : Nat} (hk : isEnd σ = true) (hd : σ.2.defers = [{ target := .collected d, args := #[] }]) (hw : w.heap[d]? = some (.deferred (some [])))
    (hr : (results fn σ.2.tmps).run Try.prog (w.putObj d (.deferred none)) = .ok v (w.putObj d (.deferred none))) (h : R (.returned v) (w.putObj d (.deferred none))) : Run Try.prog (PM.bodyPostM Try.prog fn R) σ w :=
  run_end hk (.inr ⟨d, hd, hw, v, hr, h⟩) (.inr ⟨d, hd, hw, v, hr, h⟩)

theorem msgs_len (b : Bytes) : (readBatchP b).1.msgs.length ≤ 4096 := by
  unfold readBatchP batchP
  split
  · exact Nat.zero_le _
  · split
    · exact Nat.zero_le _
    · split
      · split
        · exact Nat.zero_le _
        · split
          · exact Nat.zero_le _
          · split
            · exact Nat.zero_le _
            · rename_i h
              split
              · exact Nat.zero_le _
              · simp only [List.length_map]
                have := not_or.1 h
                omega
      · exact Nat.zero_le _

set_option maxHeartbeats 4000000 in
theorem post13_calls {x : Inbox} {vq vl vb : Value} {w : World} (hx : InArg w x vq vl) {b : Bytes} (hb : Sl Ty.u8 w Any b vb) :
    Calls Try.prog 13 #[.agg #[vq, .int .i64 x.taken, vl, .int .u64 x.next], vb] w fun e w' => RetIn w e w' (x.post b).1 (x.post b).2 := by
  obtain ⟨Aq, cq, rfl⟩ := hx.q.form
  obtain ⟨Al, cl, rfl⟩ := hx.l.form
  obtain ⟨Ab, cb, rfl⟩ := hb.form
  have H := HS.refl w
  refine calls_runM Try.func13 (by kernel_rfl) ?_
  refine run_box (t := 26) (v := .agg #[.slice Aq x.queue.length cq, .int .i64 x.taken, .slice Al x.list.length cl, .int .u64 x.next]) H (by kernel_rfl) (by kernel_rfl) fun b2 wc H => ?_
  refine run_alloc (t := 26) (v := .agg #[.slice none 0 0, .int .i64 0, .slice none 0 0, .int .u64 0]) H (by kernel_rfl) (by kernel_rfl) fun b4 wc H => ?_
  refine run_ld (n := 1) (t := 26) (off := 0) (v := .agg #[.slice Aq x.queue.length cq, .int .i64 x.taken, .slice Al x.list.length cl, .int .u64 x.next]) H rfl (by kernel_rfl) (by kernel_rfl) (by kernel_rfl) ?_
  refine run_call (f := 33) (args := #[.agg #[.slice Aq x.queue.length cq, .int .i64 x.taken, .slice Al x.list.length cl, .int .u64 x.next]]) (by kernel_rfl) (by kernel_rfl) pf33 (may33_calls (hx.ext H.below).q (hx.ext H.below).l hx.nq hx.nl) fun e wc ⟨he, hE⟩ => ⟨_, he, ?_⟩
  replace H := H.ext hE
  have bad : ∀ {w' : World} {er : Int} {L : List Ck}, x.post b = (.zero, er) → HS w w' L → RetIn w (.returned (.tuple #[.agg #[.slice none 0 0, .int .i64 0, .slice none 0 0, .int .u64 0], .int .i64 er])) w' (x.post b).1 (x.post b).2 := by
    intro w' er L he H
    rw [he]
    exact ⟨_, _, rfl, ((H.take 0).nil delT 31).nil bytesT 27⟩
  refine run_cond (t := !x.may) (by kernel_rfl) (by kernel_rfl) (fun hm => ?_) (fun hm => ?_)
  · refine run_st (n := 0) (t := 26) (off := 0) (v := .agg #[.slice none 0 0, .int .i64 0, .slice none 0 0, .int .u64 0]) (cs' := #[.slice none 0 0, .int .i64 0, .slice none 0 0, .int .u64 0]) H rfl (by kernel_rfl) (by kernel_rfl) (by kernel_rfl) fun wc H => ?_
    exact run_retM (v := .tuple #[.agg #[.slice none 0 0, .int .i64 0, .slice none 0 0, .int .u64 0], .int .i64 2]) (by kernel_rfl) (by kernel_rfl) (resN Try.results13 (vs := [.agg #[.slice none 0 0, .int .i64 0, .slice none 0 0, .int .u64 0], .int .i64 2]) (by simp) ⟨rv_cell (H.blk 0 rfl) (by kernel_rfl) (by kernel_rfl), rv_tmp (by kernel_rfl), trivial⟩) (bad (by unfold Inbox.post; rw [if_pos (by simpa using hm)]) H)
  have hm : x.may = true := by simpa using hm
  obtain ⟨nq, nl, ht0, ht1, hok, hshort⟩ := may_spec hm
  refine run_call (f := 31) (args := #[.slice Ab b.length cb]) (by kernel_rfl) (by kernel_rfl) pf31 (readBatch31_calls (hb.ext H.below)) fun e wc ⟨vm, he, hH⟩ => ⟨_, he, ?_⟩
  replace H := H.join hH
  clear hH
  obtain ⟨Am, cm, rfl⟩ := (H.sl 0 rfl).form
  have hpost0 : x.post b = if (readBatchP b).2 ≠ 0 then (.zero, (readBatchP b).2) else
      if (readBatchP b).1.number ≠ x.next ∨ (x.queue.length : Int) - x.taken < (readBatchP b).1.take then (.zero, 200) else
      if 4096 < (x.list ++ ((x.queue.drop x.taken.toNat).take (readBatchP b).1.take.toNat).map (·.msg) ++ (keptI (readBatchP b).1.msgs (readBatchP b).1.msgs.length).map fun j => (readBatchP b).1.msgs.getD j []).length then (.zero, 4)
      else (⟨x.queue, ((x.taken.toNat + (readBatchP b).1.take.toNat : Nat) : Int), x.list ++ ((x.queue.drop x.taken.toNat).take (readBatchP b).1.take.toNat).map (·.msg) ++ (keptI (readBatchP b).1.msgs (readBatchP b).1.msgs.length).map fun j => (readBatchP b).1.msgs.getD j [], IntKind.u64.wrap (x.next + 1)⟩, 0) := by
    unfold Inbox.post; rw [if_neg (by rw [hm]; simp)]
  generalize hrb : readBatchP b = q at H hpost0
  obtain ⟨⟨bn, bt, msgs⟩, er⟩ := q
  simp only at H hpost0 ⊢
  refine run_alloc (t := 65) (v := .agg zBatch) H (by kernel_rfl) (by kernel_rfl) fun b6 wc H => ?_
  refine run_st (n := 0) (t := 65) (off := 0) (v := .agg #[.int .u64 bn, .int .u64 bt, .slice Am msgs.length cm]) (cs' := #[.int .u64 bn, .int .u64 bt, .slice Am msgs.length cm]) H rfl (by kernel_rfl) (by kernel_rfl) (by kernel_rfl) fun wc H => ?_
  refine run_ifN (p := er = 0) (by kernel_rfl) (by kernel_rfl) (fun hc => ?_) (fun hc => ?_)
  · refine run_st (n := 2) (t := 26) (off := 0) (v := .agg #[.slice none 0 0, .int .i64 0, .slice none 0 0, .int .u64 0]) (cs' := #[.slice none 0 0, .int .i64 0, .slice none 0 0, .int .u64 0]) H rfl (by kernel_rfl) (by kernel_rfl) (by kernel_rfl) fun wc H => ?_
    exact run_retM (v := .tuple #[.agg #[.slice none 0 0, .int .i64 0, .slice none 0 0, .int .u64 0], .int .i64 er]) (by kernel_rfl) (by kernel_rfl) (resN Try.results13 (vs := [.agg #[.slice none 0 0, .int .i64 0, .slice none 0 0, .int .u64 0], .int .i64 er]) (by simp) ⟨rv_cell (H.blk 2 rfl) (by kernel_rfl) (by kernel_rfl), rv_tmp (by kernel_rfl), trivial⟩) (bad (by rw [hpost0, if_pos hc]) H)
  rw [if_neg (by simpa using hc)] at hpost0
  clear hc
  refine run_ld (n := 0) (t := 24) (off := 0) (v := .int .u64 bn) H rfl (by kernel_rfl) (by kernel_rfl) (by kernel_rfl) ?_
  refine run_ld (n := 3) (t := 24) (off := 3) (v := .int .u64 x.next) H rfl (by kernel_rfl) (by kernel_rfl) (by kernel_rfl) ?_
  refine run_lit (.bool (!decide (bn = x.next))) (by kernel_rfl) (by kernel_rfl) ?_
  by_cases hbn : bn = x.next
  case neg =>
    rw [decide_eq_false hbn]
    refine run_cond (t := true) (by kernel_rfl) (by kernel_rfl) (fun _ => ?_) (fun h => by cases h)
    refine run_st (n := 2) (t := 26) (off := 0) (v := .agg #[.slice none 0 0, .int .i64 0, .slice none 0 0, .int .u64 0]) (cs' := #[.slice none 0 0, .int .i64 0, .slice none 0 0, .int .u64 0]) H rfl (by kernel_rfl) (by kernel_rfl) (by kernel_rfl) fun wc H => ?_
    exact run_retM (v := .tuple #[.agg #[.slice none 0 0, .int .i64 0, .slice none 0 0, .int .u64 0], .int .i64 200]) (by kernel_rfl) (by kernel_rfl) (resN Try.results13 (vs := [.agg #[.slice none 0 0, .int .i64 0, .slice none 0 0, .int .u64 0], .int .i64 200]) (by simp) ⟨rv_cell (H.blk 2 rfl) (by kernel_rfl) (by kernel_rfl), rv_tmp (by kernel_rfl), trivial⟩) (bad (by rw [hpost0, if_pos (.inl hbn)]) H)
  rw [decide_eq_true hbn]
  refine run_ld (n := 0) (t := 24) (off := 1) (v := .int .u64 bt) H rfl (by kernel_rfl) (by kernel_rfl) (by kernel_rfl) ?_
  refine run_ld (n := 3) (t := 22) (off := 0) (v := .slice Aq x.queue.length cq) H rfl (by kernel_rfl) (by kernel_rfl) (by kernel_rfl) ?_
  refine run_ld (n := 3) (t := 3) (off := 1) (v := .int .i64 x.taken) H rfl (by kernel_rfl) (by kernel_rfl) (by kernel_rfl) ?_
  have hwait : IntKind.u64.wrap (IntKind.i64.wrap ((x.queue.length : Int) - x.taken)) = (x.queue.length : Int) - x.taken := by
    rw [i64_of (by omega) (by omega), u64_of (by omega) (by omega)]
  refine run_if (p := bt > IntKind.u64.wrap (IntKind.i64.wrap ((x.queue.length : Int) - x.taken))) (by kernel_rfl) (by kernel_rfl) (fun hc => ?_) (fun hc => ?_)
  · refine run_st (n := 2) (t := 26) (off := 0) (v := .agg #[.slice none 0 0, .int .i64 0, .slice none 0 0, .int .u64 0]) (cs' := #[.slice none 0 0, .int .i64 0, .slice none 0 0, .int .u64 0]) H rfl (by kernel_rfl) (by kernel_rfl) (by kernel_rfl) fun wc H => ?_
    exact run_retM (v := .tuple #[.agg #[.slice none 0 0, .int .i64 0, .slice none 0 0, .int .u64 0], .int .i64 200]) (by kernel_rfl) (by kernel_rfl) (resN Try.results13 (vs := [.agg #[.slice none 0 0, .int .i64 0, .slice none 0 0, .int .u64 0], .int .i64 200]) (by simp) ⟨rv_cell (H.blk 2 rfl) (by kernel_rfl) (by kernel_rfl), rv_tmp (by kernel_rfl), trivial⟩) (bad (by rw [hpost0, if_pos (.inr (by rw [hwait] at hc; exact hc))]) H)
  rw [hwait] at hc
  rw [if_neg (by rintro (h | h); exact h hbn; exact hc h)] at hpost0
  have hbt0 : 0 ≤ bt := by have := take_nonneg b; rw [hrb] at this; exact this
  obtain ⟨n, rfl⟩ : ∃ n : Nat, bt = (n : Int) := ⟨bt.toNat, by omega⟩
  obtain ⟨t, ht⟩ : ∃ t : Nat, x.taken = (t : Int) := ⟨x.taken.toNat, by omega⟩
  have htn : t + n ≤ x.queue.length := by omega
  rw [ht] at hpost0
  simp only [Int.toNat_natCast] at hpost0
  refine run_ld (n := 3) (t := 26) (off := 0) (v := .agg #[.slice Aq x.queue.length cq, .int .i64 x.taken, .slice Al x.list.length cl, .int .u64 x.next]) H rfl (by kernel_rfl) (by kernel_rfl) (by kernel_rfl) ?_
  have hx1 := hx.ext H.below
  refine run_call (f := 45) (args := #[.agg #[.slice Aq x.queue.length cq, .int .i64 x.taken, .slice Al x.list.length cl, .int .u64 x.next]]) (by kernel_rfl) (by kernel_rfl) pf45 (copied_calls hx1.q hx1.l hx1.nq hx1.nl hx1.mq hx1.ml) fun e wc ⟨vq', vl', he, hH⟩ => ⟨_, he, ?_⟩
  replace H := H.join hH
  clear hH hx1
  obtain ⟨Al', cl', rfl⟩ := (H.sl 0 rfl).form
  obtain ⟨Aq', cq', rfl⟩ := (H.sl 1 rfl).form
  refine run_st (n := 5) (t := 26) (off := 0) (v := .agg #[.slice Aq' x.queue.length cq', .int .i64 x.taken, .slice Al' x.list.length cl', .int .u64 x.next]) (cs' := #[.slice Aq' x.queue.length cq', .int .i64 x.taken, .slice Al' x.list.length cl', .int .u64 x.next]) H rfl (by kernel_rfl) (by kernel_rfl) (by kernel_rfl) fun wc H => ?_
  refine run_ld (n := 2) (t := 24) (off := 1) (v := .int .u64 (n : Int)) H rfl (by kernel_rfl) (by kernel_rfl) (by kernel_rfl) ?_
  rw [ht] at H
  have H := H.pick 5 rfl
  have hnw : IntKind.i64.wrap (n : Int) = (n : Int) := wrap_nat (by omega)
  have hc46 := take46_calls H htn (by unfold small; omega) (by unfold small; omega) hx.mq
  rw [show (Value.int .i64 (n : Int)) = .int .i64 (IntKind.i64.wrap (n : Int)) by rw [hnw]] at hc46
  refine run_call (f := 46) (args := #[.pointer (some ⟨b2, 0, none⟩), .int .i64 (IntKind.i64.wrap (n : Int))]) (by kernel_rfl) (by kernel_rfl) pf46 (hc46) fun e wc ⟨vl3, he, H3⟩ => ⟨_, he, ?_⟩
  have H := H3
  clear H3
  obtain ⟨Al3, cl3, rfl⟩ := (H.sl 1 rfl).form
  refine run_ld (n := 3) (t := 23) (off := 2) (v := .slice Am msgs.length cm) H rfl (by kernel_rfl) (by kernel_rfl) (by kernel_rfl) ?_
  refine run_call (f := 47) (args := #[.slice Am msgs.length cm, fn48]) (by kernel_rfl) (by kernel_rfl) pf47 (kept47_calls) fun e wc ⟨bA, bB, he, hH⟩ => ⟨_, he, ?_⟩
  replace H := H.join hH
  clear hH
  obtain ⟨vq2, hvq2⟩ : ∃ v : Value, v = .slice Aq' x.queue.length cq' := ⟨_, rfl⟩
  obtain ⟨l3, hl3⟩ : ∃ l3, l3 = x.list ++ ((x.queue.drop t).take n).map (·.msg) := ⟨_, rfl⟩
  have nl3 : l3.length ≤ 8192 := by rw [hl3, List.length_append, List.length_map, List.length_take, List.length_drop]; omega
  rw [← hl3] at hpost0
  have nm : msgs.length ≤ 4096 := by have := msgs_len b; rw [hrb] at this; exact this
  rw [← hvq2, ← hl3] at H
  have H := H.sel [6, 3, 1, 0, 2, 4, 7] (by decide) (L' := [Ck.own bytesT 27 (.slice Am msgs.length cm) msgs, Ck.own bytesT 27 (.slice Al3 l3.length cl3) l3, Ck.blk bA 23 #[.slice Am msgs.length cm], Ck.blk bB 37 #[fn48],
    Ck.blk b2 26 #[vq2, .int .i64 ((t + n : Nat) : Int), .slice Al3 l3.length cl3, .int .u64 x.next], Ck.own delT 31 vq2 x.queue, Ck.blk b4 26 #[.slice none 0 0, .int .i64 0, .slice none 0 0, .int .u64 0]]) rfl
  obtain ⟨bm, om, css, hAm, H⟩ := open_msgs H
  obtain ⟨cs, H⟩ := (H.pick 1 rfl).open_own
  have hcs : cs.length = l3.length := by
    obtain ⟨S, ⟨h1, -⟩, -⟩ := H.nth 0 rfl
    have := h1.1
    rw [this]; exact Nat.mul_one _
  obtain ⟨J, hJ⟩ : ∃ J : Nat → List Nat → Value → List Ck, J = fun d ks vl => [Ck.blk b2 26 #[vq2, .int .i64 ((t + n : Nat) : Int), vl, .int .u64 x.next], Ck.row 27 1 vl (l3.length + ks.length) (cs ++ kvals css ks), Ck.els bytesT l3 cs,
    Ck.own delT 31 vq2 x.queue, Ck.obj d (.deferred (some [])), Ck.blk b4 26 #[.slice none 0 0, .int .i64 0, .slice none 0 0, .int .u64 0]] := ⟨_, rfl⟩
  refine run_range (gf := 87) (fst := #[]) (lb := #[.pointer (some ⟨bA, 0, none⟩), .pointer (some ⟨bB, 0, none⟩)]) H (by kernel_rfl) pf87 fun fn d l w1 H => ?_
  have H := H.sel [0, 5, 6, 4, 7, 2, 3, 8, 1, 9] (by decide) (L' := Ck.obj l (.loop (rfRec _ fn d .ready)) :: [Ck.blk bA 23 #[.slice Am msgs.length cm], Ck.blk bB 37 #[fn48], Ck.rowK bytesT bm om msgs css] ++ J d [] (.slice Al3 l3.length cl3))
    (by rw [hJ]; show _ = List.map some (_ :: [_, _, _] ++ [_, Ck.row 27 1 _ _ (cs ++ []), _, _, _, _]); rw [List.append_nil]; rfl)
  refine ⟨_, kept87_calls (J := J d) (by kernel_rfl) hAm (by omega) H ?_, ?_⟩
  · intro ks j vb w2 vl hvb hkj hjm hks H
    obtain ⟨Av, nv, cv, rfl⟩ : ∃ A n c, vb = .slice A n c := by
      have := (H.rowK 3 rfl (List.getElem?_eq_getElem hjm)).1
      rw [hvb] at this
      obtain ⟨v', he, hS⟩ := bytesT_open this
      obtain ⟨A, c, rfl⟩ := hS.form
      exact ⟨A, _, c, by simpa using he⟩
    obtain ⟨vb, hvbe⟩ : ∃ v : Value, v = .slice Av nv cv := ⟨_, rfl⟩
    rw [hJ] at H
    refine runR_adv fuel (runR_end (by kernel_rfl) ⟨_, H.obj 0 rfl, rfl, ?_⟩)
    refine runR_busy (L := _ ++ _) H fun w3 H => ?_
    refine runR_adv fuel ?_
    refine runR_ld (n := 4) (t := 23) (off := 2) (v := vl) H rfl (by kernel_rfl) (by kernel_rfl) (by kernel_rfl) (by kernel_rfl) ?_
    refine runR_bs (e := 27) (len := 1) (cells := #[.slice Av nv cv]) H (by kernel_rfl) (by kernel_rfl) (by kernel_rfl) fun bb w4 H => ?_
    have hbb := H.blk 0 rfl
    rw [← hvbe] at hvb hbb
    have H := H.pick 6 rfl
    obtain ⟨vl2, w5, hr, H, -⟩ := H.app_row row23 (b := bb) (o := 0) (m := 1) (c := 1) (news := [vb]) rfl (fun i u hi => by rw [hbb.cell]; simpa using hi) (by
      have := (H.rowK 5 rfl (List.getElem?_eq_getElem hjm)).1
      intro u hu
      rw [← hvb] at hu
      exact bytesT.one this u hu) (by omega)
    obtain ⟨A2, c2, rfl⟩ := row_form H
    obtain ⟨vl2, hvl2⟩ : ∃ v : Value, v = .slice A2 (l3.length + ks.length + 1) c2 := ⟨_, rfl⟩
    refine runR_val (v := .slice A2 (l3.length + ks.length + 1) c2) (by kernel_rfl) (by kernel_rfl) (op_append (s := vl) (by kernel_rfl) hr) ?_
    refine runR_st (n := 6) (t := 23) (off := 2) (v := .slice A2 (l3.length + ks.length + 1) c2) (cs' := #[vq2, .int .i64 ((t + n : Nat) : Int), .slice A2 (l3.length + ks.length + 1) c2, .int .u64 x.next]) H rfl (by kernel_rfl) (by kernel_rfl) (by kernel_rfl) (by kernel_rfl) fun w6 H => ?_
    rw [← hvl2] at H
    have H := H.sel [2, 3, 4, 5, 6, 0, 7, 8, 9, 10] (by decide) (L' := Ck.obj l (.loop { (rfRec _ fn d .ready) with state := .busy }) :: [Ck.blk bA 23 #[.slice Am msgs.length cm], Ck.blk bB 37 #[fn48], Ck.rowK bytesT bm om msgs css] ++ J d (ks ++ [j]) vl2)
      (by
        have e1 : cs ++ kvals css (ks ++ [j]) = cs ++ kvals css ks ++ [vb] := by
          unfold kvals; rw [List.map_append, List.append_assoc]; simp [hvb]
        have e2 : l3.length + (ks ++ [j]).length = l3.length + ks.length + 1 := by simp; omega
        rw [hJ]
        show _ = List.map some (_ :: [_, _, _] ++ [_, Ck.row 27 1 vl2 (l3.length + (ks ++ [j]).length) (cs ++ kvals css (ks ++ [j])), _, _, _, _])
        rw [e1, e2]; rfl)
    refine runR_end (by kernel_rfl) ⟨_, H.obj 0 rfl, vl2, ?_⟩
    exact HS.putObj0 (L := _ ++ _) H _
  · rintro e w2 ⟨hv, vl, H⟩
    refine ⟨hv, H.take 1, fun w3 hw3 => ?_⟩
    have H := HS.putObjE (L := _ ++ _) H hw3
    rw [hJ] at H
    clear hw3 hJ
    have H := H.sel [5, 6, 3, 4, 7, 8, 9] (by decide) (L' := [Ck.row 27 1 vl (l3.length + (keptI msgs msgs.length).length) (cs ++ kvals css (keptI msgs msgs.length)), Ck.els bytesT l3 cs, Ck.rowK bytesT bm om msgs css,
      Ck.blk b2 26 #[vq2, .int .i64 ((t + n : Nat) : Int), vl, .int .u64 x.next], Ck.own delT 31 vq2 x.queue, Ck.obj d (.deferred (some [])), Ck.blk b4 26 #[.slice none 0 0, .int .i64 0, .slice none 0 0, .int .u64 0]]) rfl
    have H := close_msgs hcs (fun j hj => keptI_lt hj) H
    obtain ⟨l4, hl4⟩ : ∃ l4, l4 = l3 ++ (keptI msgs msgs.length).map fun j => msgs.getD j [] := ⟨_, rfl⟩
    have nl4 : l4.length ≤ 12288 := by
      have := keptI_len msgs msgs.length
      rw [hl4, List.length_append, List.length_map]; omega
    rw [← hl4] at H hpost0
    obtain ⟨Al4, cl4, rfl⟩ := (H.sl 0 rfl).form
    refine run_ld (n := 1) (t := 23) (off := 2) (v := .slice Al4 l4.length cl4) H rfl (by kernel_rfl) (by kernel_rfl) (by kernel_rfl) ?_
    refine run_if (p := (l4.length : Int) > 4096) (by kernel_rfl) (by kernel_rfl) (fun hc => ?_) (fun hc => ?_)
    · refine run_st (n := 4) (t := 26) (off := 0) (v := .agg #[.slice none 0 0, .int .i64 0, .slice none 0 0, .int .u64 0]) (cs' := #[.slice none 0 0, .int .i64 0, .slice none 0 0, .int .u64 0]) H rfl (by kernel_rfl) (by kernel_rfl) (by kernel_rfl) fun wc H => ?_
      have H2 := (H.pick 3 rfl).putObj0 (.deferred none)
      exact run_retD (d := d) (v := .tuple #[.agg #[.slice none 0 0, .int .i64 0, .slice none 0 0, .int .u64 0], .int .i64 4]) (by kernel_rfl) (by kernel_rfl) (H.obj 3 rfl) (resN Try.results13 (vs := [.agg #[.slice none 0 0, .int .i64 0, .slice none 0 0, .int .u64 0], .int .i64 4]) (by simp) ⟨rv_cell (H2.blk 4 rfl) (by kernel_rfl) (by kernel_rfl), rv_tmp (by kernel_rfl), trivial⟩)
        (bad (by rw [hpost0, if_pos (by omega)]) H2)
    · rw [if_neg (by omega)] at hpost0
      refine run_ld (n := 1) (t := 24) (off := 3) (v := .int .u64 x.next) H rfl (by kernel_rfl) (by kernel_rfl) (by kernel_rfl) ?_
      refine run_st (n := 1) (t := 24) (off := 3) (v := .int .u64 (IntKind.u64.wrap (x.next + 1))) (cs' := #[vq2, .int .i64 ((t + n : Nat) : Int), .slice Al4 l4.length cl4, .int .u64 (IntKind.u64.wrap (x.next + 1))]) H rfl (by kernel_rfl) (by kernel_rfl) (by kernel_rfl) fun wc H => ?_
      subst hvq2
      refine run_ld (n := 1) (t := 26) (off := 0) (v := .agg #[.slice Aq' x.queue.length cq', .int .i64 ((t + n : Nat) : Int), .slice Al4 l4.length cl4, .int .u64 (IntKind.u64.wrap (x.next + 1))]) H rfl (by kernel_rfl) (by kernel_rfl) (by kernel_rfl) ?_
      refine run_st (n := 4) (t := 26) (off := 0) (v := .agg #[.slice Aq' x.queue.length cq', .int .i64 ((t + n : Nat) : Int), .slice Al4 l4.length cl4, .int .u64 (IntKind.u64.wrap (x.next + 1))]) (cs' := #[.slice Aq' x.queue.length cq', .int .i64 ((t + n : Nat) : Int), .slice Al4 l4.length cl4, .int .u64 (IntKind.u64.wrap (x.next + 1))]) H rfl (by kernel_rfl) (by kernel_rfl) (by kernel_rfl) fun wc H => ?_
      have H2 := (H.pick 3 rfl).putObj0 (.deferred none)
      refine run_retD (d := d) (v := .tuple #[.agg #[.slice Aq' x.queue.length cq', .int .i64 ((t + n : Nat) : Int), .slice Al4 l4.length cl4, .int .u64 (IntKind.u64.wrap (x.next + 1))], .int .i64 0]) (by kernel_rfl) (by kernel_rfl) (H.obj 3 rfl) (resN Try.results13 (vs := [.agg #[.slice Aq' x.queue.length cq', .int .i64 ((t + n : Nat) : Int), .slice Al4 l4.length cl4, .int .u64 (IntKind.u64.wrap (x.next + 1))], .int .i64 0]) (by simp) ⟨rv_cell (H2.blk 4 rfl) (by kernel_rfl) (by kernel_rfl), rv_tmp (by kernel_rfl), trivial⟩) ?_
      rw [hpost0]
      exact ⟨_, _, rfl, H2.sel [1, 3] (by decide) rfl⟩
end Go.Proofs.Ythmajhdemooecaa
