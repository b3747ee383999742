/- The plain law of an inbox's turns: what may be stays such; what waits comes into the list. -/
import Derived.Test.YthmajhdemooecaaF18
import Derived.Test.YthmajhdemooecaaXF
namespace Go.Proofs.Ythmajhdemooecaa
open Go.PM Go.RowKit
set_option linter.unusedVariables false
set_option linter.unusedSimpArgs false
set_option linter.unnecessarySimpa false

/-! what is read is no longer than the bytes -/
inductive AllB (N : Nat) : Item → Prop
  | mk {a : Bool} {b : Bytes} {l : List Item} (h : b.length ≤ N) (hl : ∀ y ∈ l, AllB N y) : AllB N (.mk a b l)
theorem AllB.open {N : Nat} {x : Item} (h : AllB N x) : x.parts.2.1.length ≤ N ∧ ∀ y ∈ x.parts.2.2, AllB N y := by
  cases h with
  | mk h hl => exact ⟨h, hl⟩

theorem itemQ_all {M : Nat} {lists : Nat → Bytes → Except Int (Item × Bytes)} (hl : ∀ k b r, b.length ≤ M → lists k b = .ok r → AllB M r.1) {b : Bytes} {r : Item × Bytes} (hM : b.length ≤ M) (h : itemQ lists b = .ok r) : AllB M r.1 := by
  cases b with
  | nil => cases h
  | cons c rest =>
    simp only [List.length_cons] at hM
    simp only [itemQ] at h
    split at h
    · injection h with h; subst h
      exact .mk (by simp; omega) (by simp)
    · split at h
      · cases hc : bodyP (c.toNat - 128) rest with
        | error e => rw [hc] at h; cases h
        | ok q =>
          obtain ⟨i, l⟩ := q
          rw [hc] at h
          simp only at h
          have := (bodyP_len hc).1
          split at h
          · cases h
          · injection h with h; subst h
            exact .mk (by simp only at this; omega) (by simp)
      · exact hl _ _ _ (by omega) h

theorem itemsP_all {M : Nat} {it : Bytes → Except Int (Item × Bytes)} (hit : ∀ b r, b.length ≤ M → it b = .ok r → AllB M r.1) (hlen : ∀ b r, it b = .ok r → r.2.length < b.length) :
    ∀ (n : Nat) (b : Bytes) (l : List Item), b.length ≤ M → itemsP it n b = .ok l → ∀ y ∈ l, AllB M y
  | 0, b, l, _, h, y, hy => by injection h with h; subst h; simp at hy
  | n + 1, b, l, hM, h, y, hy => by
    unfold itemsP at h
    split at h
    · injection h with h; subst h; simp at hy
    · cases hb : it b with
      | error e => rw [hb] at h; cases h
      | ok q =>
        obtain ⟨x, r⟩ := q
        rw [hb] at h
        simp only at h
        have hlt := hlen _ _ hb
        simp only at hlt
        cases hr : itemsP it n r with
        | error e => rw [hr] at h; cases h
        | ok l2 =>
          rw [hr] at h
          injection h with h; subst h
          rcases List.mem_cons.1 hy with rfl | hy
          · exact hit _ _ hM hb
          · exact itemsP_all hit hlen n r l2 (by omega) hr y hy

theorem itemP_all {M : Nat} : ∀ (n : Nat) (b : Bytes) (r : Item × Bytes), b.length ≤ M → itemP n b = .ok r → AllB M r.1
  | 0, b, r, hM, h => itemQ_all (fun k b r _ h => by cases h) hM h
  | n + 1, b, r, hM, h => itemQ_all (fun k b r hM h => by
      unfold listP at h
      cases hc : bodyP k b with
      | error e => rw [hc] at h; cases h
      | ok q =>
        obtain ⟨i, l⟩ := q
        rw [hc] at h
        simp only at h
        split at h
        · cases h
        · rename_i ys hys
          injection h with h; subst h
          exact .mk (by simp) (itemsP_all (fun b r hM h => itemP_all n b r hM h) (fun b r h => itemP_len n h) _ _ _ (Nat.le_trans (bodyP_len hc).1 hM) hys)) hM h

theorem decP_all (b : Bytes) : AllB 65536 (decP b).1 := by
  unfold decP
  split
  · exact .mk (by simp) (by simp)
  · rename_i hn
    cases h : itemP 16 b with
    | error e => exact .mk (by simp) (by simp)
    | ok q =>
      obtain ⟨x, r⟩ := q
      simp only
      split
      · exact itemP_all 16 b _ (by omega) h
      · exact .mk (by simp) (by simp)

theorem msgs_short (b : Bytes) : ∀ m ∈ (readBatchP b).1.msgs, m.length ≤ 65536 := by
  have hall := decP_all b
  unfold readBatchP batchP
  generalize (decP b).1 = x at hall ⊢
  have h2 := hall.open.2
  split
  · intro m hm; cases hm
  · split
    · intro m hm; cases hm
    · split
      · rename_i a b' c he
        rw [he] at h2
        have hc := (h2 c (by simp)).open.2
        split
        · intro m hm; cases hm
        · split
          · intro m hm; cases hm
          · split
            · intro m hm; cases hm
            · split
              · intro m hm; cases hm
              · intro m hm
                simp only [List.mem_map] at hm
                obtain ⟨y, hy, rfl⟩ := hm
                exact (hc y hy).open.1
      · intro m hm; cases hm

/-! what may be -/
theorem may_mk {x : Inbox} (h1 : x.queue.length ≤ 4096) (h2 : x.list.length ≤ 4096) (h3 : 0 ≤ x.taken) (h4 : x.taken ≤ x.queue.length) (h5 : okQ 0 x.queue = true) (h6 : ∀ m ∈ x.list, m.length ≤ 65536) : x.may = true := by
  unfold Inbox.may
  simp only [Bool.and_eq_true, decide_eq_true_eq, List.all_eq_true]
  exact ⟨⟨⟨⟨⟨h1, h2⟩, h3⟩, h4⟩, h5⟩, h6⟩
theorem zero_may : Inbox.zero.may = true := by decide

theorem okQ_app : ∀ {q : List Delayed} {last : Int} {d : Delayed}, okQ last q = true → (q = [] → last ≤ d.block) → (q ≠ [] → lastB q ≤ d.block) → d.msg.length ≤ 65536 → okQ last (q ++ [d]) = true
  | [], last, d, _, h1, _, h3 => by
    simp [okQ]; have := h1 rfl; omega
  | e :: q, last, d, h, _, h2, h3 => by
    simp only [okQ, List.cons_append, Bool.and_eq_true, Bool.not_eq_true', decide_eq_false_iff_not, decide_eq_true_eq] at h ⊢
    refine ⟨h.1, okQ_app h.2 (fun hq => ?_) (fun hq => ?_) h3⟩
    · subst hq
      exact h2 (by simp)
    · have := h2 (by simp)
      unfold lastB at this ⊢
      rw [List.getLast?_cons] at this
      cases hl : q.getLast? with
      | none => exact absurd (List.getLast?_eq_none_iff.1 hl) hq
      | some z => rw [hl] at this; simpa using this

theorem okQ_short : ∀ {q : List Delayed} {last : Int}, okQ last q = true → ∀ d ∈ q, d.msg.length ≤ 65536
  | [], _, _, d, hd => by cases hd
  | e :: q, last, h, d, hd => by
    simp only [okQ, Bool.and_eq_true, decide_eq_true_eq] at h
    rcases List.mem_cons.1 hd with rfl | hd
    · exact h.1.2
    · exact okQ_short h.2 d hd

theorem may_le {x : Inbox} (h : x.may = true) : x.queue.length ≤ 4096 ∧ x.list.length ≤ 4096 := ⟨(may_spec h).1, (may_spec h).2.1⟩
theorem may_small {x : Inbox} (h : x.may = true) : small x.queue.length ∧ small x.list.length := by
  obtain ⟨h1, h2, -⟩ := may_spec h
  exact ⟨by unfold small; omega, by unfold small; omega⟩

theorem inarg_own {w : World} {x : Inbox} {vq vl : Value} (hq : Sl delT w Any x.queue vq) (hl : Sl bytesT w Any x.list vl) (h : x.may = true) : InArg w x vq vl := by
  obtain ⟨h1, h2, h3, h4, h5, h6⟩ := may_spec h
  exact ⟨hq, hl, by unfold small; omega, by unfold small; omega, fun d hd => by have := okQ_short h5 d hd; unfold small; omega, fun m hm => by have := h6 m hm; unfold small; omega⟩
theorem inarg_zero {w : World} : InArg w Inbox.zero (.slice none 0 0) (.slice none 0 0) := inarg_own (Sl.nil _ _ _) (Sl.nil _ _ _) zero_may

theorem enq_ok {x y : Inbox} {block : Int} {m : Bytes} (h : x.enq block m = (y, 0)) : x.since block = true ∧ m.length ≤ 65536 ∧ ¬ Brings m ∧ x.queue.length < 4096 ∧ y = ⟨x.queue ++ [⟨block, m⟩], x.taken, x.list, x.next⟩ := by
  unfold Inbox.enq Inbox.put at h
  split at h
  · rename_i hc
    split at h
    · simp only [Prod.mk.injEq] at h; exact absurd h.2 (by decide)
    · rename_i hq
      simp only [Prod.mk.injEq] at h
      exact ⟨hc.1, hc.2.1, hc.2.2, by omega, h.1.symm⟩
  · simp only [Prod.mk.injEq] at h; exact absurd h.2 (by decide)

theorem since_spec {x : Inbox} {block : Int} (h : x.since block = true) : x.may = true ∧ 0 ≤ block ∧ (x.queue ≠ [] → lastB x.queue ≤ block) := by
  unfold Inbox.since at h
  simp only [Bool.and_eq_true, Bool.or_eq_true, decide_eq_true_eq] at h
  refine ⟨h.1.1, h.1.2, fun hq => ?_⟩
  rcases h.2 with h | h
  · exact absurd (List.length_eq_zero_iff.1 h) hq
  · exact h

theorem put_may {x : Inbox} {block : Int} {m : Bytes} (hs : x.since block = true) (hm : m.length ≤ 65536) : (x.put block m).1.may = true := by
  unfold Inbox.put
  split
  · exact zero_may
  · rename_i hq
    obtain ⟨h, h0, hl⟩ := since_spec hs
    obtain ⟨h1, h2, h3, h4, h5, h6⟩ := may_spec h
    refine may_mk (by simp; omega) h2 h3 (by simp; omega) (okQ_app h5 (fun _ => h0) hl hm) h6

theorem enq_may (x : Inbox) (block : Int) (m : Bytes) : (x.enq block m).1.may = true := by
  unfold Inbox.enq
  split
  · rename_i hc; exact put_may hc.1 hc.2.1
  · exact zero_may

theorem mem_take_drop {α : Type} {l : List α} {a b : Nat} {x : α} (h : x ∈ (l.drop a).take b) : x ∈ l := List.mem_of_mem_drop (List.mem_of_mem_take h)

theorem tickN_le (block : Int) (q : List Delayed) (r : Nat) : tickN block q r ≤ r ∧ tickN block q r ≤ q.length := by
  unfold tickN
  have h1 : ((q.take r).takeWhile fun d => decide (8 ≤ block - d.block)).length ≤ (q.take r).length := (List.takeWhile_sublist _).length_le
  rw [List.length_take] at h1
  omega

theorem tick_may (x : Inbox) (block : Int) : (x.tick block).1.may = true := by
  unfold Inbox.tick
  split
  · rename_i hc
    obtain ⟨h1, h2, h3, h4, h5, h6⟩ := may_spec hc.1
    have ht := tickN_le block (x.queue.drop x.taken.toNat) (4096 - x.list.length)
    rw [List.length_drop] at ht
    refine may_mk h1 (by simp only [List.length_append, List.length_map, List.length_take, List.length_drop]; omega) (by simp only; omega) (by simp only; omega) h5 fun m hm => ?_
    rcases List.mem_append.1 hm with hm | hm
    · exact h6 m hm
    · obtain ⟨d, hd, rfl⟩ := List.mem_map.1 hm
      exact okQ_short h5 d (mem_take_drop hd)
  · exact zero_may

theorem post_ok {x y : Inbox} {b : Bytes} (h : x.post b = (y, 0)) : x.may = true ∧ (readBatchP b).2 = 0 ∧ (readBatchP b).1.number = x.next ∧ (readBatchP b).1.take ≤ (x.queue.length : Int) - x.taken ∧
    ∃ l, l = x.list ++ ((x.queue.drop x.taken.toNat).take (readBatchP b).1.take.toNat).map (·.msg) ++ (keptI (readBatchP b).1.msgs (readBatchP b).1.msgs.length).map (fun j => (readBatchP b).1.msgs.getD j []) ∧ l.length ≤ 4096 ∧
      y = ⟨x.queue, ((x.taken.toNat + (readBatchP b).1.take.toNat : Nat) : Int), l, IntKind.u64.wrap (x.next + 1)⟩ := by
  unfold Inbox.post at h
  split at h
  · simp only [Prod.mk.injEq] at h; exact absurd h.2 (by decide)
  · rename_i hm
    split at h
    · rename_i he
      simp only [Prod.mk.injEq] at h; exact absurd h.2 he
    · rename_i he
      simp only at h
      split at h
      · simp only [Prod.mk.injEq] at h; exact absurd h.2 (by decide)
      · rename_i hb
        rw [not_or] at hb
        split at h
        · simp only [Prod.mk.injEq] at h; exact absurd h.2 (by decide)
        · rename_i hl
          simp only [Prod.mk.injEq] at h
          exact ⟨by simpa using hm, by simpa using he, by simpa using hb.1, by omega, _, rfl, by omega, h.1.symm⟩

theorem kept_mem {msgs : List Bytes} {m : Bytes} (h : m ∈ (keptI msgs msgs.length).map fun j => msgs.getD j []) : m ∈ msgs ∧ ¬ Brings m := by
  obtain ⟨j, hj, rfl⟩ := List.mem_map.1 h
  have hlt := keptI_lt hj
  unfold keptI at hj
  have := (List.mem_filter.1 hj).2
  have e : msgs.getD j [] = msgs[j] := by simp [List.getD, List.getElem?_eq_getElem hlt]
  refine ⟨by rw [e]; exact List.getElem_mem hlt, by simpa using this⟩

theorem post_zero {x : Inbox} {b : Bytes} : (x.post b).2 = 0 ∨ (x.post b).1 = .zero := by
  unfold Inbox.post
  split
  · exact .inr rfl
  · split
    · exact .inr rfl
    · simp only
      split
      · exact .inr rfl
      · split
        · exact .inr rfl
        · exact .inl rfl

theorem post_may (x : Inbox) (b : Bytes) : (x.post b).1.may = true := by
  rcases post_zero (x := x) (b := b) with h | h
  · obtain ⟨hm, -, -, ht, l, hl, hn, hy⟩ := post_ok (y := (x.post b).1) (by rw [← h])
    obtain ⟨h1, h2, h3, h4, h5, h6⟩ := may_spec hm
    rw [hy]
    refine may_mk h1 hn (by simp only; omega) (by simp only; omega) h5 fun m hm => ?_
    simp only [hl] at hm
    rcases List.mem_append.1 hm with hm | hm
    · rcases List.mem_append.1 hm with hm | hm
      · exact h6 m hm
      · obtain ⟨d, hd, rfl⟩ := List.mem_map.1 hm
        exact okQ_short h5 d (mem_take_drop hd)
    · exact msgs_short b m (kept_mem hm).1
  · rw [h]; exact zero_may

/-! small things of the walks -/
theorem wrap_wrap (x : Int) : IntKind.i64.wrap (IntKind.i64.wrap x) = IntKind.i64.wrap x := by
  have : -9223372036854775808 ≤ IntKind.i64.wrap x ∧ IntKind.i64.wrap x < 9223372036854775808 := by
    unfold IntKind.wrap
    simp [IntKind.signed, IntKind.bits] <;> omega
  exact i64_of this.1 this.2
theorem wrap_pred {n : Nat} (h0 : 0 < n) (h : n ≤ 9223372036854775807) : IntKind.i64.wrap ((n : Int) - 1) = ((n - 1 : Nat) : Int) := by
  rw [i64_of (by omega) (by omega)]; omega
theorem wrapped {x : Int} (h : IntKind.i64.wrap x = x) : -9223372036854775808 ≤ x ∧ x < 9223372036854775808 := by
  rw [← h]
  unfold IntKind.wrap
  simp [IntKind.signed, IntKind.bits] <;> omega
theorem lastB_get {q : List Delayed} {d : Delayed} (h : q[q.length - 1]? = some d) : lastB q = d.block := by
  unfold lastB
  rw [List.getLast?_eq_getElem?, h]
  rfl

theorem cutS {α : Type} {d : Ty α} {w : World} {xs ys : List α} {A A' : Option Addr} {n c l h n' m' : Nat} (hx : Sl d w Any xs (.slice A n c)) (h1 : l ≤ h) (h2 : h ≤ xs.length) (hA : A' = if c = l then A else A.map (·.add (l * d.sz))) (hn : h - l = n') (hm : c - l = m')
    (hy : ys = (xs.drop l).take n') : Sl d w Any ys (.slice A' n' m') := by
  subst hy
  have := hx.len
  exact hx.cut' (m := c) h1 (by omega) (Nat.le_refl _) h2 hA hn hm

theorem blk_u8 {w : World} {b n : Nat} {T : TypeId} {cells : Array Value} (hB : Blk w b T cells) {xs : Bytes} (hn : xs.length = n) (hm : n ≤ maxLen) (hc : cells.toList = xs.map fun b => Value.int .u8 (b.toNat : Int)) : Sl Ty.u8 w Any xs (.slice (some ⟨b, 0, none⟩) n n) :=
  blk_sl hB trivial hn hm fun j x hj => ⟨_, ⟨rfl, trivial⟩, fun i v hi => by
    cases i with
    | succ i => simp at hi
    | zero =>
      simp at hi; subst hi
      show cells[j * 1 + 0]? = _
      rw [Nat.mul_one, Nat.add_zero, ← Array.getElem?_toList, hc, List.getElem?_map, hj]; rfl⟩
theorem blk_row1 {w : World} {b : Nat} {T : TypeId} {v : Value} (hB : Blk w b T #[v]) {x : Bytes} (hx : Sl Ty.u8 w Any x v) : Sl bytesT w Any [x] (.slice (some ⟨b, 0, none⟩) 1 1) :=
  blk_sl hB trivial rfl (by decide) fun j y hj => by
    cases j with
    | succ j => simp at hj
    | zero =>
      simp at hj; subst hj
      exact ⟨[v], bytesT_any hx (Nat.lt_of_le_of_lt (Nat.zero_le _) hB.lt), fun i u hi => by
        cases i with
        | succ i => simp at hi
        | zero => simp at hi; subst hi; rfl⟩

theorem anch {y1 y2 y3 : Inbox} {e1 e2 e3 : Int} (h1 : Inbox.zero.enq 3 [7] = (y1, e1)) (h2 : y1.tick 10 = (y2, e2)) (h3 : y1.tick 11 = (y3, e3)) : e1 = 0 ∧ e2 = 0 ∧ e3 = 0 ∧ y2.list = [] ∧ y3.list = [[7]] ∧ y3.taken = 1 := by
  have a1 : Inbox.zero.enq 3 [7] = (⟨[⟨3, [7]⟩], 0, [], 0⟩, 0) := by kernel_rfl
  rw [a1] at h1
  simp only [Prod.mk.injEq] at h1
  obtain ⟨rfl, rfl⟩ := h1
  have a2 : Inbox.tick ⟨[⟨3, [7]⟩], 0, [], 0⟩ 10 = (⟨[⟨3, [7]⟩], 0, [], 0⟩, 0) := by kernel_rfl
  have a3 : Inbox.tick ⟨[⟨3, [7]⟩], 0, [], 0⟩ 11 = (⟨[⟨3, [7]⟩], 1, [[7]], 0⟩, 0) := by kernel_rfl
  rw [a2] at h2
  rw [a3] at h3
  simp only [Prod.mk.injEq] at h2 h3
  obtain ⟨rfl, rfl⟩ := h2
  obtain ⟨rfl, rfl⟩ := h3
  exact ⟨rfl, rfl, rfl, rfl, rfl, rfl⟩

/-! InboxOpen -/
/-- What is so while batches are posted behind the message d. -/
structure OpenI (x : Inbox) (d : Delayed) (y : Inbox) : Prop where
  q : y.queue = x.queue ++ [d]
  t : (0 ≤ x.taken ∧ x.taken ≤ x.queue.length) ∧ x.taken ≤ y.taken
  pre : ∃ s, y.list = x.list ++ s
  inn : ∀ (j : Nat) e, x.taken ≤ (j : Int) → (j : Int) < y.taken → y.queue[j]? = some e → e.msg ∈ y.list
/-- The block that is asked. -/
def OpenB (x : Inbox) (b0 block : Int) : Prop := 0 ≤ b0 ∧ b0 ≤ 1000 ∧ (x.queue = [] → block = b0) ∧ (x.queue ≠ [] → lastB x.queue ≤ block ∧ block = lastB x.queue + b0 ∧ block ≤ 1099511628776)

theorem openB_some {x : Inbox} {b0 : Int} {big : Bool} {d : Delayed} (h : 0 ≤ b0 ∧ b0 ≤ 1000) (hb : big = decide (0 < x.queue.length ∧ 1099511627776 < lastB x.queue)) (hbig : big = false) (hc : (x.queue.length : Int) > 0) (hl : lastB x.queue = d.block) (hw : IntKind.i64.wrap d.block = d.block) :
    OpenB x b0 (IntKind.i64.wrap (b0 + d.block)) := by
  have hr := wrapped hw
  have hn : ¬ (0 < x.queue.length ∧ 1099511627776 < lastB x.queue) := by rw [hbig] at hb; exact of_decide_eq_false hb.symm
  have : ¬ 1099511627776 < lastB x.queue := fun h => hn ⟨by omega, h⟩
  refine ⟨h.1, h.2, fun he => ?_, fun _ => ?_⟩
  · rw [he] at hc; simp at hc
  · rw [i64_of (by omega) (by omega)]; omega
theorem openB_none {x : Inbox} {b0 : Int} (h : 0 ≤ b0 ∧ b0 ≤ 1000) (hc : ¬ (x.queue.length : Int) > 0) : OpenB x b0 b0 := by
  have : x.queue = [] := List.length_eq_zero_iff.1 (by omega)
  exact ⟨h.1, h.2, fun _ => rfl, fun he => absurd this he⟩

theorem openI_begin {x y : Inbox} {block er : Int} {m : Bytes} (h : x.enq block m = (y, er)) (h0 : er = 0) : OpenI x ⟨block, m⟩ y := by
  subst h0
  obtain ⟨hs, -, -, -, rfl⟩ := enq_ok h
  obtain ⟨-, -, h3, h4, -⟩ := may_spec (since_spec hs).1
  exact ⟨rfl, ⟨⟨h3, h4⟩, Int.le_refl _⟩, ⟨[], by simp⟩, fun j e h1 h2 => by simp only at h2; omega⟩

theorem taken_msgs {q : List Delayed} {t n j : Nat} {e : Delayed} (h1 : t ≤ j) (h2 : j < t + n) (h : q[j]? = some e) : e.msg ∈ ((q.drop t).take n).map (·.msg) := by
  refine List.mem_map.2 ⟨e, ?_, rfl⟩
  refine List.mem_of_getElem? (i := j - t) ?_
  rw [List.getElem?_take, if_pos (by omega), List.getElem?_drop, show t + (j - t) = j from by omega]
  exact h

theorem openI_post {x y z : Inbox} {d : Delayed} {b : Bytes} {er : Int} (hm : y.may = true) (hI : OpenI x d y) (h : y.post b = (z, er)) (h0 : er = 0) : OpenI x d z := by
  subst h0
  obtain ⟨-, -, -, ht, l, hl, -, rfl⟩ := post_ok h
  obtain ⟨-, -, h3, h4, -, -⟩ := may_spec hm
  obtain ⟨s, hs⟩ := hI.pre
  have hle := hI.t
  refine ⟨hI.q, ⟨hI.t.1, by simp only; omega⟩, ⟨s ++ ((y.queue.drop y.taken.toNat).take (readBatchP b).1.take.toNat).map (·.msg) ++ _, by simp only [hl, hs, List.append_assoc]; rfl⟩, fun j e h1 h2 h5 => ?_⟩
  simp only at h2 h5 ⊢
  rw [hl]
  refine List.mem_append_left _ ?_
  rcases Int.lt_or_le (j : Int) y.taken with h6 | h6
  · exact List.mem_append_left _ (hI.inn j e h1 h6 h5)
  · exact List.mem_append_right _ (taken_msgs (by omega) (by omega) h5)

theorem okQ_last : ∀ {q : List Delayed} {last : Int} {d : Delayed}, okQ last (q ++ [d]) = true → ∀ e ∈ q ++ [d], e.block ≤ d.block
  | [], last, d, h, e, he => by
    simp at he; subst he; exact Int.le_refl _
  | f :: q, last, d, h, e, he => by
    simp only [List.cons_append, okQ, Bool.and_eq_true, Bool.not_eq_true', decide_eq_false_iff_not, decide_eq_true_eq] at h
    rcases List.mem_cons.1 he with rfl | he
    · exact okQ_block h.2 d (by simp)
    · exact okQ_last h.2 e he

theorem takeWhile_all {α : Type} {p : α → Bool} : ∀ {l : List α}, (∀ x ∈ l, p x = true) → l.takeWhile p = l
  | [], _ => rfl
  | x :: l, h => by rw [List.takeWhile_cons_of_pos (h x (by simp)), takeWhile_all fun y hy => h y (List.mem_cons_of_mem _ hy)]

theorem open_end {x y z : Inbox} {b0 block er : Int} {m : Bytes} (hm : y.may = true) (hI : OpenI x ⟨block, m⟩ y) (hB : OpenB x b0 block) (hw : 0 ≤ block) (h : y.tick (IntKind.i64.wrap (block + 8)) = (z, er)) :
    er = 0 ∧ (∃ s, z.list = x.list ++ s) ∧ (z.list.length = 4096 ∨ ((x.queue.length : Int) + 1 ≤ z.taken ∧ m ∈ z.list)) := by
  have hb : block ≤ 1099511628776 := by
    by_cases hq : x.queue = []
    · have := hB.2.2.1 hq; have := hB.2.1; omega
    · exact (hB.2.2.2 hq).2.2
  rw [i64_of (by omega) (by omega)] at h
  obtain ⟨h1, h2, h3, h4, h5, h6⟩ := may_spec hm
  unfold Inbox.tick at h
  rw [if_pos ⟨hm, by omega⟩] at h
  simp only [Prod.mk.injEq] at h
  obtain ⟨hz, rfl⟩ := h
  obtain ⟨s, hs⟩ := hI.pre
  refine ⟨rfl, ⟨s ++ _, by rw [← hz]; simp only [hs, List.append_assoc]; rfl⟩, ?_⟩
  have hall : ∀ e ∈ y.queue, 8 ≤ block + 8 - e.block := fun e he => by
    have := okQ_last (q := x.queue) (d := ⟨block, m⟩) (by rw [← hI.q]; exact h5) e (by rw [← hI.q]; exact he)
    simp only at this; omega
  have hn : tickN (block + 8) (y.queue.drop y.taken.toNat) (4096 - y.list.length) = min (4096 - y.list.length) (y.queue.length - y.taken.toNat) := by
    unfold tickN
    rw [takeWhile_all fun d hd => decide_eq_true (hall d (List.mem_of_mem_drop (List.mem_of_mem_take hd))), List.length_take, List.length_drop]
  have hlenq : y.queue.length = x.queue.length + 1 := by rw [hI.q]; simp
  rw [hn] at hz
  rcases Nat.le_total (4096 - y.list.length) (y.queue.length - y.taken.toNat) with hle | hle
  · left
    rw [Nat.min_eq_left hle] at hz
    rw [← hz]
    simp only [List.length_append, List.length_map, List.length_take, List.length_drop]
    omega
  · right
    rw [Nat.min_eq_right hle] at hz
    rw [← hz]
    refine ⟨by simp only; omega, ?_⟩
    have hd : y.queue[x.queue.length]? = some ⟨block, m⟩ := by rw [hI.q]; simp
    rcases Int.lt_or_le (x.queue.length : Int) y.taken with h7 | h7
    · refine List.mem_append_left _ (hI.inn x.queue.length ⟨block, m⟩ ?_ h7 hd)
      have := hI.t
      by_cases hx : x.taken ≤ (x.queue.length : Int)
      · exact hx
      · omega
    · exact List.mem_append_right _ (taken_msgs (e := ⟨block, m⟩) (by omega) (by omega) hd)

theorem open_err {x y : Inbox} {b0 block er : Int} {m : Bytes} (h : x.enq block m = (y, er)) (h0 : ¬ er = 0) (hm : x.may = true) (hb : ¬ Brings m) (hl : m.length ≤ 65536) (hq : x.queue.length ≠ 4096) (hB : OpenB x b0 block) : block < 0 := by
  rcases Int.lt_or_le block 0 with hn | hn
  · exact hn
  · exfalso
    have hs : x.since block = true := by
      unfold Inbox.since
      simp only [hm, Bool.true_and, Bool.and_eq_true, Bool.or_eq_true, decide_eq_true_eq]
      refine ⟨hn, ?_⟩
      by_cases hx : x.queue = []
      · left; rw [hx]; rfl
      · right; exact (hB.2.2.2 hx).1
    obtain ⟨h1, -⟩ := may_spec hm
    unfold Inbox.enq Inbox.put at h
    rw [if_pos ⟨hs, hl, hb⟩, if_neg (by omega)] at h
    simp only [Prod.mk.injEq] at h
    exact h0 h.2.symm
end Go.Proofs.Ythmajhdemooecaa
