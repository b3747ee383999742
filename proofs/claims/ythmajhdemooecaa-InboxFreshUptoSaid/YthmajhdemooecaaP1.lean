/- The plain law of deposits: nobody but Deposit brings one into the list. -/
import Derived.Test.YthmajhdemooecaaF20
import Derived.Test.YthmajhdemooecaaXG
namespace Go.Proofs.Ythmajhdemooecaa
open Go.PM Go.RowKit
set_option linter.unusedVariables false
set_option linter.unusedSimpArgs false

def cnt (l : List Bytes) : Nat := l.countP fun m => decide (Brings m)
def cntQ (q : List Delayed) : Nat := q.countP fun d => decide (Brings d.msg)

theorem cnt_yes {l : List Bytes} {i : Nat} {x : Bytes} (h : l[i]? = some x) (hb : Brings x) : cnt (l.take i) + 1 = cnt (l.take (i + 1)) := by
  obtain ⟨hlt, rfl⟩ := List.getElem?_eq_some_iff.1 h
  unfold cnt
  rw [List.take_succ_eq_append_getElem hlt, List.countP_append]
  simp [hb]
theorem cnt_no {l : List Bytes} {i : Nat} {x : Bytes} (h : l[i]? = some x) (hb : ¬ Brings x) : cnt (l.take i) = cnt (l.take (i + 1)) := by
  obtain ⟨hlt, rfl⟩ := List.getElem?_eq_some_iff.1 h
  unfold cnt
  rw [List.take_succ_eq_append_getElem hlt, List.countP_append]
  simp [hb]
theorem take_drop_succ {α : Type} {l : List α} {a i : Nat} {x : α} (h : l[a + i]? = some x) : (l.drop a).take (i + 1) = (l.drop a).take i ++ [x] := by
  have h' : (l.drop a)[i]? = some x := by rw [List.getElem?_drop]; exact h
  obtain ⟨hlt, rfl⟩ := List.getElem?_eq_some_iff.1 h'
  exact List.take_succ_eq_append_getElem hlt
theorem cntQ_yes {n a i : Nat} {q : List Delayed} {x : Delayed} (h : q[a + i]? = some x) (hb : Brings x.msg) : n + cntQ ((q.drop a).take i) + 1 = n + cntQ ((q.drop a).take (i + 1)) := by
  unfold cntQ
  rw [take_drop_succ h, List.countP_append]
  simp [hb]; omega
theorem cntQ_no {n a i : Nat} {q : List Delayed} {x : Delayed} (h : q[a + i]? = some x) (hb : ¬ Brings x.msg) : n + cntQ ((q.drop a).take i) = n + cntQ ((q.drop a).take (i + 1)) := by
  unfold cntQ
  rw [take_drop_succ h, List.countP_append]
  simp [hb]

/-- Lengths that no copy is too long for. -/
structure SmallIn (x : Inbox) : Prop where
  nq : small x.queue.length
  nl : small x.list.length
  mq : ∀ d ∈ x.queue, small d.msg.length
  ml : ∀ m ∈ x.list, small m.length
theorem InArg.sm {w : World} {x : Inbox} {vq vl : Value} (h : InArg w x vq vl) : SmallIn x := ⟨h.nq, h.nl, h.mq, h.ml⟩
theorem inarg_sm {w : World} {x : Inbox} {vq vl : Value} (hq : Sl delT w Any x.queue vq) (hl : Sl bytesT w Any x.list vl) (h : SmallIn x) : InArg w x vq vl := ⟨hq, hl, h.nq, h.nl, h.mq, h.ml⟩
theorem sm_may {x : Inbox} (h : x.may = true) : SmallIn x := by
  have := inarg_own (w := default) (x := x) (vq := .slice none 0 0) (vl := .slice none 0 0)
  obtain ⟨h1, h2, h3, h4, h5, h6⟩ := may_spec h
  exact ⟨by unfold small; omega, by unfold small; omega, fun d hd => by have := okQ_short h5 d hd; unfold small; omega, fun m hm => by have := h6 m hm; unfold small; omega⟩

/-- How many deposits are in the list or on their way. -/
def wt (x : Inbox) : Nat := cnt x.list + cntQ (x.queue.drop x.taken.toNat)
def DepI (x y : Inbox) : Prop := y = x ∨ (x.may = true ∧ wt y ≤ wt x)

theorem DepI.step {x y z : Inbox} (h : DepI x y) (hm : y.may = true) (hw : wt z ≤ wt y) : DepI x z := by
  rcases h with rfl | ⟨h1, h2⟩
  · exact .inr ⟨hm, hw⟩
  · exact .inr ⟨h1, Nat.le_trans hw h2⟩

theorem depI_enq {x y z : Inbox} {block er : Int} {m : Bytes} (hI : DepI x y) (h : y.enq block m = (z, er)) (h0 : er = 0) : DepI x z := by
  subst h0
  obtain ⟨hs, -, hb, -, rfl⟩ := enq_ok h
  have hm := (since_spec hs).1
  obtain ⟨-, -, h3, h4, -, -⟩ := may_spec hm
  refine hI.step hm ?_
  unfold wt cntQ
  simp only
  rw [List.drop_append_of_le_length (by omega), List.countP_append]
  simp [hb]

theorem cntQ_split (q : List Delayed) (t n : Nat) : cntQ (q.drop t) = cnt (((q.drop t).take n).map (·.msg)) + cntQ (q.drop (t + n)) := by
  have h : q.drop t = (q.drop t).take n ++ (q.drop t).drop n := (List.take_append_drop n _).symm
  unfold cntQ cnt
  rw [List.countP_map]
  conv => lhs; rw [h, List.countP_append]
  rw [List.drop_drop]
  rfl

theorem cnt_app (a b : List Bytes) : cnt (a ++ b) = cnt a + cnt b := by unfold cnt; exact List.countP_append

theorem depI_post {x y z : Inbox} {b : Bytes} {er : Int} (hI : DepI x y) (h : y.post b = (z, er)) (h0 : er = 0) : DepI x z := by
  subst h0
  obtain ⟨hm, -, -, ht, l, hl, -, rfl⟩ := post_ok h
  refine hI.step hm ?_
  unfold wt
  simp only
  have hk : cnt ((keptI (readBatchP b).1.msgs (readBatchP b).1.msgs.length).map fun j => (readBatchP b).1.msgs.getD j []) = 0 := by
    unfold cnt
    rw [List.countP_eq_zero]
    intro m hm
    simpa using (kept_mem hm).2
  rw [hl, cnt_app, cnt_app, hk, Int.toNat_natCast, cntQ_split y.queue y.taken.toNat (readBatchP b).1.take.toNat]
  omega

theorem depI_tick {x y z : Inbox} {block er : Int} (hI : DepI x y) (h : y.tick block = (z, er)) (h0 : er = 0) : DepI x z := by
  subst h0
  unfold Inbox.tick at h
  split at h
  · rename_i hc
    simp only [Prod.mk.injEq] at h
    obtain ⟨rfl, -⟩ := h
    refine hI.step hc.1 ?_
    unfold wt
    simp only
    rw [cnt_app, Int.toNat_natCast, cntQ_split y.queue y.taken.toNat (tickN block (y.queue.drop y.taken.toNat) (4096 - y.list.length))]
    omega
  · simp only [Prod.mk.injEq] at h; exact absurd h.2 (by decide)

theorem enq_brings {x y : Inbox} {block er : Int} {m : Bytes} (hb : Brings m) (h : x.enq block m = (y, er)) : er = 2 := by
  unfold Inbox.enq at h
  rw [if_neg (fun hc => hc.2.2 hb)] at h
  simp only [Prod.mk.injEq] at h
  exact h.2.symm

/-- The deposit that the law writes. -/
def depM : Msg := ⟨1, 0, 0, 1, 0, fun _ => 0, fun _ => 0⟩
theorem depM_ok : depM.ok := ⟨by decide, by decide, by decide, by decide, by decide, fun _ => rfl, fun _ => rfl⟩
theorem depM_dep : depM.dep := ⟨by decide, by decide, rfl, rfl, fun _ _ => rfl, fun _ _ => rfl⟩
theorem writeP_len (m : Msg) : (writeP m).length = 104 := by
  unfold writeP
  rw [List.length_append, List.length_append, fiveP_len (Nat.le_refl _), keyP_len, keyP_len]
theorem depM_brings : Brings (writeP depM) := of_decide_eq_true (by kernel_rfl)

theorem dep_end {x y : Inbox} {c3 c4 i3 i4 : Nat} (hI : DepI x y) (h3 : c3 = cnt x.list + cntQ ((x.queue.drop x.taken.toNat).take i3)) (h4 : c4 = cnt (y.list.take i4)) (h5 : y.list.length ≤ i4) (h6 : x.taken < 0 ∨ x.queue.length ≤ x.taken.toNat + i3) : (c4 : Int) ≤ (c3 : Int) := by
  rw [List.take_of_length_le h5] at h4
  subst h3 h4
  rcases hI with rfl | ⟨hm, hw⟩
  · omega
  · obtain ⟨-, -, h7, -⟩ := may_spec hm
    rw [List.take_of_length_le (by rw [List.length_drop]; omega)]
    unfold wt at hw
    omega
end Go.Proofs.Ythmajhdemooecaa
