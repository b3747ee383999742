/- A region that draws its order is walked in the order of the text: what only reads is asked in every world behind what it stands behind. -/
import Derived.Test.YthmajhdemooecaaX0
namespace Go.PM
set_option linter.unusedVariables false
set_option linter.unusedSimpArgs false
open Go.RowKit

/-- The world w' is w with more memory. -/
def Ext (w w' : World) : Prop := Below w.heap.size w w'
theorem Ext.refl (w : World) : Ext w w := Below.refl _ _
theorem Ext.trans {a b c : World} (h : Ext a b) (k : Ext b c) : Ext a c := Below.trans h (Below.mono k h.size)
theorem Ext.drew (w : World) : Ext w w.drew := (Below.refl _ _).drew

/-- Operations that turn nothing in memory. -/
def lightOp (P : Program) : Op → Bool
  | .move _ | .assign _ | .pick .. | .build .. | .fieldAddr .. | .field .. | .extract .. | .nilCheck _ | .makeFunc .. | .unOp .. | .binOp .. | .load .. | .indexAddr .. | .index ..
  | .slice .. | .makeInterface .. | .typeAssert .. | .sliceToArrayPointer .. => true
  | .convert _ dst _ => (match P.underlying dst with | some (.int _) => true | _ => false)
  | .call { callee := .builtin b, .. } => (match b with | .len | .cap | .min | .max => true | _ => false)
  | _ => false

def lightAt (P : Program) (ops : Array Oper) (i : Nat) : Bool := lightOp P (ops.getD i default).op
def inB (ops : Array Oper) (i j : Nat) : Bool := ((Region.before ops).getD j 0).testBit i
/-- Behind which heavy operation, by its edges, stands the operation j? (its place + 1; 0: the region's begin) -/
def lo (P : Program) (ops : Array Oper) (j : Nat) : Nat := ((List.range j).filter fun i => !lightAt P ops i && inB ops i j).foldl (fun _ i => i + 1) 0
def tailAt (ops : Array Oper) (i : Nat) : Bool := (List.range ops.size).all fun j => decide (j ≤ i) || inB ops i j
def barAt (ops : Array Oper) (i : Nat) : Bool := tailAt ops i && (List.range i).all fun j => inB ops j i

/-- Operations that look at nothing in memory. -/
def pureOp : Op → Bool | .move _ | .assign _ | .pick .. | .build .. | .extract .. | .fieldAddr .. | .field .. | .slice .. | .unOp .. | .makeFunc .. => true | _ => false
def pureAt (ops : Array Oper) (i : Nat) : Bool := pureOp (ops.getD i default).op
theorem pure_light {P : Program} {ops : Array Oper} {i : Nat} (h : pureAt ops i = true) : lightAt P ops i = true := by
  unfold pureAt pureOp at h
  unfold lightAt lightOp
  cases hop : (ops.getD i default).op <;> rw [hop] at h <;> first | rfl | (cases h; done) | simp_all
/-- Whatever looks at memory stands on one side of it. -/
def softTail (ops : Array Oper) (i : Nat) : Bool := (List.range ops.size).all fun j => decide (j ≤ i) || inB ops i j || pureAt ops j
def softAt (ops : Array Oper) (i : Nat) : Bool := softTail ops i && (List.range i).all fun j => inB ops j i || pureAt ops j

def chkPair (P : Program) (ops : Array Oper) (i j : Nat) : Bool :=
  inB ops i j || ((lightAt P ops i || lightAt P ops j) && (ops.getD i default).apart ops (ops.getD j default))
def chkOne (ops : Array Oper) (j : Nat) : Bool :=
  (ops.getD j default).after.all (fun e => !Region.binds .any e || (decide (e.on < j) && inB ops e.on j)) &&
  (match (ops.getD j default).op with | .select .. => false | _ => true)
/-- inB's rows are closed under steps: what stands before what stands before. -/
def chk (P : Program) (ops : Array Oper) : Bool :=
  (List.range ops.size).all fun j => chkOne ops j && (List.range j).all fun i => chkPair P ops i j

def upd (H : Nat → World) (i : Nat) (w : World) : Nat → World := fun j => if j = i then w else H j

section
variable {P : Program} {B : Exit → Act → World → Prop} {ops : Array Oper} {k : List Item}

/-- What a heavy operation may come to. -/
def Heavy (P : Program) (o : Oper) (a : Act) (w : World) (tl : Bool) (B : Exit → Act → World → Prop) (K : Value → World → Prop) : Prop :=
  match (execOp a.eval o).run P w with
  | .ok (.value v) w' => K v w'
  | .ok .skip w' => K undef w'
  | .ok (.enter f args) w' => Calls P f args w' fun
    | .returned v, w'' => K v w''
    | .panicked ch, w'' => tl = true ∧ B (.panic ch) a w''
    | .outgrown, _ => False
  | .halt (.panic v) w' => tl = true ∧ B (.panic [{ v, recovered := false }]) a w'
  | _ => False

theorem Heavy.mono {o : Oper} {a : Act} {w : World} {tl : Bool} {K K' : Value → World → Prop} (h : ∀ v w', K v w' → K' v w') (H : Heavy P o a w tl B K) : Heavy P o a w tl B K' := by
  unfold Heavy at *
  split at H
  · exact h _ _ H
  · exact h _ _ H
  · refine Calls.mono H fun e w' he => ?_
    cases e with
    | returned v => exact h _ _ he
    | panicked c => exact he
    | outgrown => exact he
  · exact H
  · exact H.elim

/-- If it does not stand at the tail, it comes to something. -/
theorem Heavy.some {o : Oper} {a : Act} {w : World} {K : Value → World → Prop} (H : Heavy P o a w false B K) : ∃ v w', K v w' := by
  unfold Heavy at H
  split at H
  · exact ⟨_, _, H⟩
  · exact ⟨_, _, H⟩
  · obtain ⟨e, w', _, he, _⟩ := H []
    cases e with
    | returned v => exact ⟨_, _, he⟩
    | panicked c => exact absurd he.1 (by simp)
    | outgrown => exact he.elim
  · exact absurd H.1 (by simp)
  · exact H.elim

def Rob (P : Program) (B : Exit → Act → World → Prop) (ops : Array Oper) (k : List Item) : List Nat → (Nat → World) → Act → World → Prop
  | [], _, a, w => Run P B (k, a) w
  | i :: r, H, a, w =>
    let o := ops.getD i default
    if Region.wanted o (yielded ops a.tmps) = true then
      if lightAt P ops i = true then
        ∃ v, (∀ w', (pureAt ops i = true ∨ Ext (H (lo P ops i)) w') → (execOp a.eval o).run P w' = .ok (.value v) w') ∧ Rob P B ops k r H (a.put o.dst v) w
      else
        Heavy P o a w (barAt ops i) B fun v w' => (softAt ops i = true ∨ Ext w w') ∧ Rob P B ops k r (upd H (i + 1) w') (a.put o.dst v) w'
    else Rob P B ops k r (if lightAt P ops i = true then H else upd H (i + 1) w) (a.put o.dst undef) w

/-- One step, its rest kept open. -/
def One (P : Program) (B : Exit → Act → World → Prop) (ops : Array Oper) (i : Nat) (H : Nat → World) (a : Act) (w : World) (K : (Nat → World) → Act → World → Prop) : Prop :=
  let o := ops.getD i default
  if Region.wanted o (yielded ops a.tmps) = true then
    if lightAt P ops i = true then
      ∃ v, (∀ w', (pureAt ops i = true ∨ Ext (H (lo P ops i)) w') → (execOp a.eval o).run P w' = .ok (.value v) w') ∧ K H (a.put o.dst v) w
    else
      Heavy P o a w (barAt ops i) B fun v w' => (softAt ops i = true ∨ Ext w w') ∧ K (upd H (i + 1) w') (a.put o.dst v) w'
  else K (if lightAt P ops i = true then H else upd H (i + 1) w) (a.put o.dst undef) w

theorem rob_cons (i : Nat) (r : List Nat) (H : Nat → World) (a : Act) (w : World) : Rob P B ops k (i :: r) H a w = One P B ops i H a w (Rob P B ops k r) := rfl

theorem One.mono {i : Nat} {H : Nat → World} {a : Act} {w : World} {K K' : (Nat → World) → Act → World → Prop}
    (h : ∀ H' a' w', (lightAt P ops i = true ∧ H' = H ∧ w' = w) ∨ (lightAt P ops i = false ∧ H' = upd H (i + 1) w' ∧ (softAt ops i = true ∨ Ext w w')) → K H' a' w' → K' H' a' w')
    (hh : One P B ops i H a w K) : One P B ops i H a w K' := by
  unfold One at *
  dsimp only at *
  split
  · rename_i hw
    rw [if_pos hw] at hh
    split
    · rename_i hl
      rw [if_pos hl] at hh
      obtain ⟨v, hv, hk⟩ := hh
      exact ⟨v, hv, h _ _ _ (.inl ⟨hl, rfl, rfl⟩) hk⟩
    · rename_i hl
      rw [if_neg hl] at hh
      exact hh.mono fun v w' ⟨hx, hk⟩ => ⟨hx, h _ _ _ (.inr ⟨by simpa using hl, rfl, hx⟩) hk⟩
  · rename_i hw
    rw [if_neg hw] at hh
    by_cases hl : lightAt P ops i = true
    · rw [if_pos hl] at hh ⊢
      exact h _ _ _ (.inl ⟨hl, rfl, rfl⟩) hh
    · rw [if_neg hl] at hh ⊢
      exact h _ _ _ (.inr ⟨by simpa using hl, rfl, .inr (Ext.refl _)⟩) hh

/-- What One asks of the frame hangs on what its operation looks at. -/
theorem upd_comm {H : Nat → World} {i j : Nat} (w w' : World) (h : i ≠ j) : upd (upd H i w) j w' = upd (upd H j w') i w := by
  funext x; unfold upd; split <;> split <;> simp_all

/-- Two that stand in no order change places: j comes to the front. -/
theorem swap {i j : Nat} {H : Nat → World} {a : Act} {w : World} {K : (Nat → World) → Act → World → Prop}
    (hij : inB ops i j = false) (hlt : i < j) (hj : j < ops.size)
    (hp : chkPair P ops i j = true) (hsi : ∀ cs b, (ops.getD i default).op ≠ .select cs b) (hsj : ∀ cs b, (ops.getD j default).op ≠ .select cs b)
    (hlo : lo P ops j ≠ i + 1) (hE : pureAt ops j = true ∨ Ext (H (lo P ops j)) w)
    (hloi : lo P ops i ≠ j + 1)
    (h : One P B ops i H a w fun H' a' w' => One P B ops j H' a' w' K) :
    One P B ops j H a w fun H' a' w' => One P B ops i H' a' w' K := by
  have hap : (ops.getD i default).apart ops (ops.getD j default) = true ∧ (lightAt P ops i = true ∨ lightAt P ops j = true) := by
    unfold chkPair at hp
    simp only [hij, Bool.false_or, Bool.and_eq_true, Bool.or_eq_true] at hp
    exact ⟨hp.2, hp.1⟩
  obtain ⟨hap, hlight⟩ := hap
  obtain ⟨h1, h2, h3⟩ := Oper.apart_spec hap
  have ei : ∀ (a : Act) v, execOp (a.put (ops.getD j default).dst v).eval (ops.getD i default) = execOp a.eval (ops.getD i default) := fun a v => execOp_put _ hsi a _ v h3
  have ej : ∀ (a : Act) v, execOp (a.put (ops.getD i default).dst v).eval (ops.getD j default) = execOp a.eval (ops.getD j default) := fun a v => execOp_put _ hsj a _ v h1
  have wi : ∀ (a : Act) v, Region.wanted (ops.getD i default) (yielded ops (a.put (ops.getD j default).dst v).tmps) = Region.wanted (ops.getD i default) (yielded ops a.tmps) := fun a v => wanted_put _ a _ v h3
  have wj : ∀ (a : Act) v, Region.wanted (ops.getD j default) (yielded ops (a.put (ops.getD i default).dst v).tmps) = Region.wanted (ops.getD j default) (yielded ops a.tmps) := fun a v => wanted_put _ a _ v h1
  have cm : ∀ (a : Act) v u, (a.put (ops.getD i default).dst v).put (ops.getD j default).dst u = (a.put (ops.getD j default).dst u).put (ops.getD i default).dst v := fun a v u => Act.put_comm a v u h2
  have tli : barAt ops i = false := by
    cases hb : barAt ops i
    · rfl
    · unfold barAt tailAt at hb
      rw [Bool.and_eq_true, List.all_eq_true] at hb
      have := hb.1 j (List.mem_range.2 hj)
      simp [hij] at this
      omega
  have tlj : barAt ops j = false := by
    cases hb : barAt ops j
    · rfl
    · unfold barAt at hb
      rw [Bool.and_eq_true, List.all_eq_true] at hb
      have := hb.2 i (List.mem_range.2 hlt)
      simp [hij] at this
  -- the two operations' ways: wanted or not
  unfold One at *
  dsimp only at *
  by_cases wi0 : Region.wanted (ops.getD i default) (yielded ops a.tmps) = true
  · rw [if_pos wi0] at h
    by_cases li : lightAt P ops i = true
    · rw [if_pos li] at h
      obtain ⟨v, hv, h⟩ := h
      by_cases wj0 : Region.wanted (ops.getD j default) (yielded ops a.tmps) = true
      · rw [wj, if_pos wj0] at h
        rw [if_pos wj0]
        by_cases lj : lightAt P ops j = true
        · rw [if_pos lj] at h ⊢
          obtain ⟨u, hu, h⟩ := h
          refine ⟨u, fun w' hw' => by have := hu w' hw'; rwa [ej] at this, ?_⟩
          rw [wi, if_pos wi0, if_pos li]
          exact ⟨v, fun w' hw' => by rw [ei]; exact hv w' hw', by rw [← cm]; exact h⟩
        · rw [if_neg lj] at h ⊢
          unfold Heavy at h ⊢
          rw [ej] at h
          split at h
          · rename_i u w' hr
            refine ⟨h.1, ?_⟩
            rw [wi, if_pos wi0, if_pos li]
            exact ⟨v, fun w2 hw2 => by rw [ei]; exact hv w2 (by simpa [upd, hloi] using hw2), by rw [← cm]; exact h.2⟩
          · rename_i w' hr
            refine ⟨h.1, ?_⟩
            rw [wi, if_pos wi0, if_pos li]
            exact ⟨v, fun w2 hw2 => by rw [ei]; exact hv w2 (by simpa [upd, hloi] using hw2), by rw [← cm]; exact h.2⟩
          · rename_i f args w' hr
            refine Calls.mono h fun e w2 he => ?_
            cases e with
            | returned u =>
              refine ⟨he.1, ?_⟩
              rw [wi, if_pos wi0, if_pos li]
              exact ⟨v, fun w2 hw2 => by rw [ei]; exact hv w2 (by simpa [upd, hloi] using hw2), by rw [← cm]; exact he.2⟩
            | panicked c => exact absurd he.1 (by simp [tlj])
            | outgrown => exact he
          · exact absurd h.1 (by simp [tlj])
          · exact h.elim
      · rw [wj, if_neg wj0] at h
        rw [if_neg wj0, wi, if_pos wi0, if_pos li]
        refine ⟨v, fun w' hw' => ?_, by rw [← cm]; exact h⟩
        rw [ei]
        refine hv w' ?_
        split at hw'
        · exact hw'
        · simpa [upd, hloi] using hw'
    · rw [if_neg li] at h
      have lj : lightAt P ops j = true := hlight.resolve_left li
      have h' := h
      rw [tli] at h'
      obtain ⟨v0, w0, -, h0⟩ := h'.some
      clear h'
      rw [wj] at h0
      by_cases wj0 : Region.wanted (ops.getD j default) (yielded ops a.tmps) = true
      · rw [if_pos wj0, if_pos lj] at h0
        rw [if_pos wj0, if_pos lj]
        obtain ⟨u, hu, -⟩ := h0
        have hu' : ∀ w', (pureAt ops j = true ∨ Ext (H (lo P ops j)) w') → (execOp a.eval (ops.getD j default)).run P w' = .ok (.value u) w' := fun w' hw' => by
          have := hu w' (by simpa [upd, hlo] using hw'); rwa [ej] at this
        refine ⟨u, hu', ?_⟩
        rw [wi, if_pos wi0, if_neg li]
        have key : Heavy P (ops.getD i default) a w (barAt ops i) B fun v w' => (softAt ops i = true ∨ Ext w w') ∧ K (upd H (i + 1) w') ((a.put (ops.getD j default).dst u).put (ops.getD i default).dst v) w' := by
          refine h.mono fun v w' hh => ⟨hh.1, ?_⟩
          have hk := hh.2
          rw [wj, if_pos wj0, if_pos lj] at hk
          obtain ⟨u2, hu2, hk⟩ := hk
          have e1 := hu2 w (by simpa [upd, hlo] using hE)
          rw [ej, hu' w hE] at e1
          injection e1 with e1 _
          injection e1 with e1
          subst e1
          rw [← cm]; exact hk
        unfold Heavy at key ⊢
        rw [ei]
        split at key
        · exact key
        · exact key
        · refine Calls.mono key fun e w2 he => ?_
          cases e with
          | returned u => exact he
          | panicked c => exact absurd he.1 (by simp [tli])
          | outgrown => exact he
        · exact absurd key.1 (by simp [tli])
        · exact key.elim
      · rw [if_neg wj0]
        rw [wi, if_pos wi0, if_neg li]
        have key : Heavy P (ops.getD i default) a w (barAt ops i) B fun v w' => (softAt ops i = true ∨ Ext w w') ∧ K (upd H (i + 1) w') ((a.put (ops.getD j default).dst undef).put (ops.getD i default).dst v) w' := by
          refine h.mono fun v w' hh => ⟨hh.1, ?_⟩
          have hk := hh.2
          rw [wj, if_neg wj0] at hk
          rw [if_pos lj] at hk
          rw [← cm]; exact hk
        rw [if_pos lj]
        unfold Heavy at key ⊢
        rw [ei]
        split at key
        · exact key
        · exact key
        · refine Calls.mono key fun e w2 he => ?_
          cases e with
          | returned u => exact he
          | panicked c => exact absurd he.1 (by simp [tli])
          | outgrown => exact he
        · exact absurd key.1 (by simp [tli])
        · exact key.elim
  · rw [if_neg wi0] at h
    rw [wj] at h
    by_cases wj0 : Region.wanted (ops.getD j default) (yielded ops a.tmps) = true
    · rw [if_pos wj0] at h ⊢
      by_cases lj : lightAt P ops j = true
      · rw [if_pos lj] at h ⊢
        obtain ⟨u, hu, h⟩ := h
        refine ⟨u, fun w' hw' => ?_, ?_⟩
        · have := hu w' (by
            split
            · exact hw'
            · simpa [upd, hlo] using hw')
          rwa [ej] at this
        · rw [wi, if_neg wi0, ← cm]
          exact h
      · have li : lightAt P ops i = true := hlight.resolve_right lj
        rw [if_neg lj] at h ⊢
        rw [if_pos li] at h
        unfold Heavy at h ⊢
        rw [ej] at h
        split at h
        · exact ⟨h.1, by rw [wi, if_neg wi0, if_pos li, ← cm]; exact h.2⟩
        · exact ⟨h.1, by rw [wi, if_neg wi0, if_pos li, ← cm]; exact h.2⟩
        · refine Calls.mono h fun e w2 he => ?_
          cases e with
          | returned u => exact ⟨he.1, by rw [wi, if_neg wi0, if_pos li, ← cm]; exact he.2⟩
          | panicked c => exact absurd he.1 (by simp [tlj])
          | outgrown => exact he
        · exact absurd h.1 (by simp [tlj])
        · exact h.elim
    · rw [if_neg wj0] at h ⊢
      rw [wi, if_neg wi0, ← cm]
      by_cases li : lightAt P ops i = true
      · simp only [li, if_true] at h ⊢; exact h
      · have lj : lightAt P ops j = true := hlight.resolve_left li
        simp only [lj, li, if_true] at h ⊢; exact h

/-- j, which stands behind none of them, comes to the front of a list. -/
theorem front {j : Nat} (hj : j < ops.size) (hsel : ∀ i cs b, (ops.getD i default).op ≠ .select cs b) :
    ∀ (p s : List Nat), (∀ i ∈ p, i < j ∧ inB ops i j = false ∧ chkPair P ops i j = true) → ∀ (H : Nat → World) (a : Act) (w : World), (pureAt ops j = true ∨ Ext (H (lo P ops j)) w) → (∀ i ∈ p, lo P ops j ≠ i + 1) → (∀ i ∈ p, lo P ops i ≠ j + 1) →
      Rob P B ops k (p ++ j :: s) H a w → Rob P B ops k (j :: (p ++ s)) H a w := by
  intro p
  induction p with
  | nil => intro s _ H a w _ _ _ h; exact h
  | cons i p ih =>
    intro s hp H a w hE hlo hloi h
    obtain ⟨h1, h2, h3⟩ := hp i (by simp)
    have h' : One P B ops i H a w fun H' a' w' => One P B ops j H' a' w' (Rob P B ops k (p ++ s)) := by
      refine One.mono (K := Rob P B ops k (p ++ j :: s)) (fun H' a' w' hh hr => ?_) h
      refine ih s (fun x hx => hp x (List.mem_cons_of_mem _ hx)) H' a' w' ?_ (fun x hx => hlo x (List.mem_cons_of_mem _ hx)) (fun x hx => hloi x (List.mem_cons_of_mem _ hx)) hr
      rcases hh with ⟨-, rfl, rfl⟩ | ⟨-, rfl, hb⟩
      · exact hE
      · have hne := hlo i (by simp)
        simp only [upd, hne, if_false]
        rcases hb with hb | hb
        · unfold softAt softTail at hb
          rw [Bool.and_eq_true, List.all_eq_true] at hb
          have := hb.1 j (List.mem_range.2 hj)
          simp [h2] at this
          exact .inl (this.resolve_left (by omega))
        · exact hE.imp id fun h => h.trans hb
    exact swap h2 h1 hj h3 (hsel i) (hsel j) (hlo i (by simp)) hE (hloi i (by simp)) h'

/-- The post behind a region. -/
def After (P : Program) (B : Exit → Act → World → Prop) (k : List Item) : Exit → Act → World → Prop
  | .normal, a, w => Run P B (k, a) w
  | .panic c, a, w => B (.panic c) a w
  | _, _, _ => False

theorem wpOp_of_one {i : Nat} {H : Nat → World} {a : Act} {w : World} {K : (Nat → World) → Act → World → Prop} {K' : Act → World → Prop} (hi : i < ops.size)
    (hE : pureAt ops i = true ∨ Ext (H (lo P ops i)) w) (hK : ∀ H' a' w', (lightAt P ops i = true ∧ H' = H ∧ w' = w) ∨ (lightAt P ops i = false ∧ H' = upd H (i + 1) w' ∧ (softAt ops i = true ∨ Ext w w')) → K H' a' w' → K' a' w')
    (h : One P B ops i H a w K) : wpOp P ops (After P B k) i K' a w := by
  have ho : ops[i]? = some (ops.getD i default) := by simp [Array.getElem?_eq_getElem hi]
  unfold One at h
  dsimp only at h
  unfold wpOp
  rw [ho]
  dsimp only
  by_cases hw : Region.wanted (ops.getD i default) (yielded ops a.tmps) = true
  · rw [if_pos hw] at h ⊢
    refine .inl ?_
    unfold Oper.wp
    by_cases hl : lightAt P ops i = true
    · rw [if_pos hl] at h
      obtain ⟨v, hv, h⟩ := h
      rw [hv w hE]
      exact hK _ _ _ (.inl ⟨hl, rfl, rfl⟩) h
    · rw [if_neg hl] at h
      unfold Heavy at h
      generalize (execOp a.eval (ops.getD i default)).run P w = r at h
      split at h
      · exact hK _ _ _ (.inr ⟨by simpa using hl, rfl, h.1⟩) h.2
      · exact hK _ _ _ (.inr ⟨by simpa using hl, rfl, h.1⟩) h.2
      · refine Calls.mono h fun e w2 he => ?_
        cases e with
        | returned v => exact hK _ _ _ (.inr ⟨by simpa using hl, rfl, he.1⟩) he.2
        | panicked c => exact he.2
        | outgrown => exact he.elim
      · exact h.2
      · exact h.elim
  · rw [if_neg hw] at h ⊢
    by_cases hl : lightAt P ops i = true
    · rw [if_pos hl] at h
      exact hK _ _ _ (.inl ⟨hl, rfl, rfl⟩) h
    · rw [if_neg hl] at h
      exact hK _ _ _ (.inr ⟨by simpa using hl, rfl, .inr (Ext.refl _)⟩) h

theorem lo_ge {i j : Nat} (hij : i < j) (hi : lightAt P ops i = false) (hb : inB ops i j = true) : i + 1 ≤ lo P ops j := by
  unfold lo
  have key : ∀ (l : List Nat) (x : Nat), l.Pairwise (· < ·) → i ∈ l → i + 1 ≤ l.foldl (fun _ i => i + 1) x := by
    intro l
    induction l with
    | nil => intro x _ h; cases h
    | cons y l ih =>
      intro x hp h
      rw [List.pairwise_cons] at hp
      simp only [List.foldl_cons]
      rcases List.mem_cons.1 h with rfl | h
      · cases l with
        | nil => simp
        | cons z l =>
          have key2 : ∀ (l : List Nat) (x : Nat), (∀ z ∈ l, i < z) → i + 1 ≤ x → i + 1 ≤ l.foldl (fun _ i => i + 1) x := by
            intro l
            induction l with
            | nil => intro x _ h; exact h
            | cons u l ih => intro x hz hx; exact ih (u + 1) (fun z hz' => hz z (List.mem_cons_of_mem _ hz')) (by have := hz u (by simp); omega)
          exact key2 _ _ hp.1 (Nat.le_refl _)
      · exact ih _ hp.2 h
  exact key _ _ (List.Pairwise.filter _ List.pairwise_lt_range) (List.mem_filter.2 ⟨List.mem_range.2 hij, by simp [hi, hb]⟩)

theorem lo_spec (P : Program) (ops : Array Oper) (j : Nat) : lo P ops j = 0 ∨ ∃ i, lo P ops j = i + 1 ∧ i < j ∧ lightAt P ops i = false ∧ inB ops i j = true := by
  unfold lo
  have key : ∀ (l : List Nat) (x : Nat), l.foldl (fun _ i => i + 1) x = x ∨ ∃ i ∈ l, l.foldl (fun _ i => i + 1) x = i + 1 := by
    intro l
    induction l with
    | nil => intro x; exact .inl rfl
    | cons y l ih =>
      intro x
      simp only [List.foldl_cons]
      rcases ih (y + 1) with h | ⟨i, hi, h⟩
      · exact .inr ⟨y, by simp, h⟩
      · exact .inr ⟨i, List.mem_cons_of_mem _ hi, h⟩
  rcases key ((List.range j).filter fun i => !lightAt P ops i && inB ops i j) 0 with h | ⟨i, hi, h⟩
  · exact .inl h
  · rw [List.mem_filter, List.mem_range] at hi
    simp only [Bool.and_eq_true, Bool.not_eq_true'] at hi
    exact .inr ⟨i, h, hi.1, hi.2.1, hi.2.2⟩

/-- The places that are still to be done, in the order of the text. -/
def todoOf (n : Nat) (listed : Array Bool) : List Nat := (List.range n).filter fun i => !listed.getD i true

theorem mem_todoOf {n : Nat} {listed : Array Bool} {i : Nat} : i ∈ todoOf n listed ↔ i < n ∧ listed.getD i true = false := by
  unfold todoOf; rw [List.mem_filter, List.mem_range]; simp

theorem todo_split {n j : Nat} {listed : Array Bool} (hs : listed.size = n) (h : j ∈ todoOf n listed) :
    ∃ p s, todoOf n listed = p ++ j :: s ∧ (∀ i ∈ p, i < j ∧ listed.getD i true = false) ∧ todoOf n (listed.setIfInBounds j true) = p ++ s := by
  obtain ⟨hj, hl⟩ := mem_todoOf.1 h
  have e : List.range n = List.range j ++ j :: (List.range (n - j - 1)).map (fun x => j + 1 + x) := by
    have h1 : n = j + ((n - j - 1) + 1) := by omega
    conv => lhs; rw [h1]
    rw [List.range_add]
    congr 1
    rw [List.range_succ_eq_map, List.map_cons, List.map_map]
    congr 1
    apply List.map_congr_left
    intro x _
    simp; omega
  have hset : ∀ i, i ≠ j → (listed.setIfInBounds j true).getD i true = listed.getD i true := fun i hi => getD_set_ne true (Ne.symm hi)
  have hjj : (listed.setIfInBounds j true).getD j true = true := by
    have : j < listed.size := by omega
    simp [this]
  refine ⟨(List.range j).filter fun i => !listed.getD i true, ((List.range (n - j - 1)).map (fun x => j + 1 + x)).filter fun i => !listed.getD i true, ?_, ?_, ?_⟩
  · unfold todoOf
    rw [e, List.filter_append, List.filter_cons]
    simp only [hl]; rfl
  · intro i hi
    rw [List.mem_filter, List.mem_range] at hi
    exact ⟨hi.1, by simpa using hi.2⟩
  · unfold todoOf
    rw [e, List.filter_append, List.filter_cons]
    simp only [hjj, Bool.not_true, Bool.false_eq_true, if_false]
    congr 1
    · apply List.filter_congr
      intro i hi
      rw [hset i (by have := List.mem_range.1 hi; omega)]
    · apply List.filter_congr
      intro i hi
      obtain ⟨x, -, rfl⟩ := List.mem_map.1 hi
      rw [hset _ (by omega)]

theorem or_bits (acc : Array Nat) (i : Nat) : ∀ (l : List Edge) (s : Nat), (l.foldl (fun s e => if Region.binds .any e then s ||| 2 ^ e.on ||| acc.getD e.on 0 else s) s).testBit i = true →
    s.testBit i = true ∨ ∃ e ∈ l, Region.binds .any e = true ∧ (e.on = i ∨ (acc.getD e.on 0).testBit i = true) := by
  intro l
  induction l with
  | nil => intro s h; exact .inl h
  | cons e l ih =>
    intro s h
    simp only [List.foldl_cons] at h
    rcases ih _ h with h | ⟨x, hx, hb, h⟩
    · split at h
      · rename_i hb
        simp only [Nat.testBit_or, Bool.or_eq_true, Nat.testBit_two_pow, decide_eq_true_eq] at h
        rcases h with (h | h) | h
        · exact .inl h
        · exact .inr ⟨e, by simp, hb, .inl h⟩
        · exact .inr ⟨e, by simp, hb, .inr h⟩
      · exact .inl h
    · exact .inr ⟨x, List.mem_cons_of_mem _ hx, hb, h⟩

theorem before_bits : ∀ (l done : List Oper) (acc : Array Nat), acc.size = done.length →
    (∀ j i, (acc.getD j 0).testBit i = true → ∃ o, done[j]? = some o ∧ ∃ e ∈ o.after, Region.binds .any e = true ∧ (e.on = i ∨ (acc.getD e.on 0).testBit i = true)) →
    ∀ j i, ((l.foldl (fun acc o => acc.push (o.after.foldl (fun s e => if Region.binds .any e then s ||| 2 ^ e.on ||| acc.getD e.on 0 else s) 0)) acc).getD j 0).testBit i = true →
      ∃ o, (done ++ l)[j]? = some o ∧ ∃ e ∈ o.after, Region.binds .any e = true ∧ (e.on = i ∨ ((l.foldl (fun acc o => acc.push (o.after.foldl (fun s e => if Region.binds .any e then s ||| 2 ^ e.on ||| acc.getD e.on 0 else s) 0)) acc).getD e.on 0).testBit i = true) := by
  intro l
  induction l with
  | nil => intro done acc hs h j i hj; simpa using h j i hj
  | cons o l ih =>
    intro done acc hs h j i hj
    have := ih (done ++ [o]) (acc.push (o.after.foldl (fun s e => if Region.binds .any e then s ||| 2 ^ e.on ||| acc.getD e.on 0 else s) 0)) (by simp [hs]) ?_ j i hj
    · simpa using this
    · intro j i hj
      have hpush : ∀ (x : Nat) (m : Nat), (acc.getD m 0).testBit i = true → ((acc.push x).getD m 0).testBit i = true := by
        intro x m hm
        rcases Nat.lt_or_ge m acc.size with hlt | hge
        · simpa [Array.getElem?_push, hlt, Nat.ne_of_lt hlt] using hm
        · simp [Array.getElem?_eq_none hge] at hm
      rcases Nat.lt_trichotomy j acc.size with hlt | heq | hgt
      · have hj' : (acc.getD j 0).testBit i = true := by simpa [Array.getElem?_push, hlt, Nat.ne_of_lt hlt] using hj
        obtain ⟨o', ho', e, he, hb, hh⟩ := h j i hj'
        refine ⟨o', ?_, e, he, hb, hh.imp id (hpush _ _)⟩
        rw [List.getElem?_append_left (by omega)]; exact ho'
      · subst heq
        have hj' : (o.after.foldl (fun s e => if Region.binds .any e then s ||| 2 ^ e.on ||| acc.getD e.on 0 else s) 0).testBit i = true := by simpa using hj
        rw [← Array.foldl_toList] at hj'
        rcases or_bits acc i _ _ hj' with h0 | ⟨e, he, hb, hh⟩
        · simp at h0
        · refine ⟨o, by rw [hs]; simp, e, Array.mem_toList_iff.1 he, hb, hh.imp id (hpush _ _)⟩
      · have hz : (acc.push (o.after.foldl (fun s e => if Region.binds .any e then s ||| 2 ^ e.on ||| acc.getD e.on 0 else s) 0)).getD j 0 = 0 := by
          simp [Array.getElem?_eq_none (xs := acc.push _) (i := j) (by simp; omega)]
        rw [hz] at hj
        simp at hj

theorem inB_spec {i j : Nat} (h : inB ops i j = true) : ∃ e ∈ (ops.getD j default).after, Region.binds .any e = true ∧ (e.on = i ∨ inB ops i e.on = true) := by
  unfold inB Region.before at *
  rw [← Array.foldl_toList] at *
  obtain ⟨o, ho, e, he, hb, hh⟩ := before_bits ops.toList [] #[] rfl (fun j i hj => by simp at hj) j i h
  have : ops.getD j default = o := by
    have : ops[j]? = some o := by simpa using ho
    simp [this]
  rw [this]
  exact ⟨e, he, hb, hh⟩

theorem inB_down {listed : Array Bool} (hcl : ∀ j, listed.getD j false = true → ∀ i, inB ops i j = true → listed.getD i false = true) {j : Nat}
    (hall : ∀ e ∈ (ops.getD j default).after, Region.binds .any e = true → listed.getD e.on false = true) {i : Nat} (h : inB ops i j = true) : listed.getD i false = true := by
  obtain ⟨e, he, hb, hh⟩ := inB_spec h
  have := hall e he hb
  rcases hh with rfl | hh
  · exact this
  · exact hcl _ this _ hh

theorem rob_anyW (hone : ∀ j, j < ops.size → chkOne ops j = true) : ∀ (fuel : Nat) (listed : Array Bool) (H : Nat → World) (a : Act) (w : World), listed.size = ops.size → (todoOf ops.size listed).length = fuel →
    (∀ i j, i < j → j < ops.size → listed.getD i true = false → listed.getD j true = false → chkPair P ops i j = true) → (∀ j, listed.getD j false = true → ∀ i, inB ops i j = true → listed.getD i false = true) →
    (∀ i ∈ todoOf ops.size listed, (lo P ops i = 0 ∨ ∃ j, lo P ops i = j + 1 ∧ listed.getD j true = true) → (pureAt ops i = true ∨ Ext (H (lo P ops i)) w)) →
    Rob P B ops k (todoOf ops.size listed) H a w → wpAny P .any ops (After P B k) fuel listed a w := by
  have hsel : ∀ i cs b, (ops.getD i default).op ≠ .select cs b := by
    intro i cs b hop
    rcases Nat.lt_or_ge i ops.size with hi | hi
    · have := hone i hi
      unfold chkOne at this
      rw [hop] at this
      simp at this
    · have : ops.getD i default = default := by simp [Array.getElem?_eq_none hi]
      rw [this] at hop
      cases hop
  intro fuel
  induction fuel with
  | zero =>
    intro listed H a w hs hn _ _ _ h
    have hnil : todoOf ops.size listed = [] := List.length_eq_zero_iff.1 hn
    rw [hnil] at h
    refine ⟨?_, h⟩
    cases hr : Region.ready .any ops listed with
    | nil => rfl
    | cons x xs =>
      have hx : x ∈ Region.ready .any ops listed := by rw [hr]; simp
      obtain ⟨h0, o, ho, -⟩ := mem_ready.1 hx
      have : x ∈ todoOf ops.size listed := mem_todoOf.2 ⟨(Array.getElem?_eq_some_iff.1 ho).1, h0⟩
      rw [hnil] at this
      cases this
  | succ fuel ih =>
    intro listed H a w hs hn hpr hcl hE h
    refine ⟨fun hr => ?_, fun j hj => ?_⟩
    · -- the first that is still to be done is ready
      exfalso
      cases ht : todoOf ops.size listed with
      | nil => rw [ht] at hn; cases hn
      | cons x xs =>
        have hx : x ∈ todoOf ops.size listed := by rw [ht]; simp
        obtain ⟨hlt, hl⟩ := mem_todoOf.1 hx
        have hfirst : ∀ y, y < x → listed.getD y true = true := by
          intro y hy
          cases hly : listed.getD y true
          · exfalso
            obtain ⟨p, s, e, hp, -⟩ := todo_split hs hx
            have hy' : y ∈ todoOf ops.size listed := mem_todoOf.2 ⟨by omega, hly⟩
            cases p with
            | nil =>
              rw [List.nil_append] at e
              -- y stands in the sorted list behind x, though it is smaller
              have hsorted : (todoOf ops.size listed).Pairwise (· < ·) := List.Pairwise.filter _ List.pairwise_lt_range
              rw [ht, List.pairwise_cons] at hsorted
              rw [ht] at hy'
              rcases List.mem_cons.1 hy' with rfl | hy'
              · omega
              · have := hsorted.1 y hy'; omega
            | cons z p =>
              have hz := (hp z (by simp)).1
              rw [ht, List.cons_append] at e
              injection e with e _
              omega
          · rfl
        have : x ∈ Region.ready .any ops listed := by
          refine mem_ready.2 ⟨hl, ops.getD x default, by simp [Array.getElem?_eq_getElem hlt], fun e he hb => ?_⟩
          have h1 := hone x hlt
          unfold chkOne at h1
          rw [Bool.and_eq_true, Array.all_eq_true_iff_forall_mem] at h1
          have h2 := h1.1 e he
          simp only [hb, Bool.not_true, Bool.false_or, Bool.and_eq_true, decide_eq_true_eq] at h2
          have h3 := hfirst e.on h2.1
          have : e.on < listed.size := by omega
          simpa [this] using h3
        rw [hr] at this
        cases this
    · obtain ⟨h0, o, ho, hall⟩ := mem_ready.1 hj
      have hlt : j < ops.size := (Array.getElem?_eq_some_iff.1 ho).1
      have hoj : ops.getD j default = o := by simp [ho]
      have hjt : j ∈ todoOf ops.size listed := mem_todoOf.2 ⟨hlt, h0⟩
      obtain ⟨p, s, e, hp, e'⟩ := todo_split hs hjt
      have hwait : ∀ i, inB ops i j = true → listed.getD i false = true := fun i hi => inB_down hcl (by rw [hoj]; exact hall) hi
      have hft : ∀ i, listed.getD i false = true → listed.getD i true = true := by
        intro i hi
        rcases Nat.lt_or_ge i listed.size with hi' | hi'
        · simpa [hi'] using hi
        · simp [Array.getElem?_eq_none hi'] at hi
      have hnot : ∀ i, listed.getD i true = false → inB ops i j = false := by
        intro i hi
        cases hb : inB ops i j
        · rfl
        · rw [hft i (hwait i hb)] at hi; cases hi
      have hloj : lo P ops j = 0 ∨ ∃ i, lo P ops j = i + 1 ∧ listed.getD i true = true := by
        rcases lo_spec P ops j with h1 | ⟨i, h1, -, -, h2⟩
        · exact .inl h1
        · exact .inr ⟨i, h1, hft i (hwait i h2)⟩
      have hEj := hE j hjt hloj
      rw [e] at h
      have hfr := front (P := P) (B := B) (k := k) hlt hsel p s (fun i hi => ⟨(hp i hi).1, hnot i (hp i hi).2, hpr i j (hp i hi).1 hlt (hp i hi).2 h0⟩) H a w hEj
        (fun i hi he => by
          rcases hloj with h1 | ⟨i', h1, h2⟩
          · omega
          · have : i' = i := by omega
            subst this
            rw [(hp i' hi).2] at h2; cases h2)
        (fun i hi he => by
          rcases lo_spec P ops i with h1 | ⟨i', h1, h2, -⟩
          · omega
          · have := (hp i hi).1; omega) h
      rw [rob_cons] at hfr
      refine wpOp_of_one hlt hEj (fun H' a' w' hh hr => ?_) hfr
      have hs' : (listed.setIfInBounds j true).size = ops.size := by simp [hs]
      have hlen : (todoOf ops.size (listed.setIfInBounds j true)).length = fuel := by
        rw [e']; rw [e] at hn; simp at hn ⊢; omega
      rw [← e'] at hr
      refine ih (listed.setIfInBounds j true) H' a' w' hs' hlen ?_ ?_ ?_ hr
      · intro i m him hm hi hl
        have hset : ∀ x, (listed.setIfInBounds j true).getD x true = false → listed.getD x true = false := by
          intro x hx
          by_cases hxj : x = j
          · subst hxj; exact h0
          · rw [getD_set_ne true (Ne.symm hxj)] at hx; exact hx
        exact hpr i m him hm (hset i hi) (hset m hl)
      · intro m hm i hi
        by_cases hmj : m = j
        · subst hmj
          exact getD_set_true (hwait i hi)
        · rw [getD_set_ne false (Ne.symm hmj)] at hm
          exact getD_set_true (hcl m hm i hi)
      · intro m hm hlm
        obtain ⟨hmlt, hml⟩ := mem_todoOf.1 hm
        have hmj : m ≠ j := by
          intro hmj
          subst hmj
          have : m < listed.size := by omega
          simp [this] at hml
        have hml' : listed.getD m true = false := by rw [getD_set_ne true (Ne.symm hmj)] at hml; exact hml
        have hmt : m ∈ todoOf ops.size listed := mem_todoOf.2 ⟨hmlt, hml'⟩
        rcases hh with ⟨hlj, rfl, rfl⟩ | ⟨hlj, rfl, hb⟩
        · refine hE m hmt ?_
          rcases hlm with h1 | ⟨i, h1, h2⟩
          · exact .inl h1
          · refine .inr ⟨i, h1, ?_⟩
            have hij : i ≠ j := by
              rintro rfl
              rcases lo_spec P ops m with h3 | ⟨i', h3, -, h4, -⟩
              · omega
              · have : i' = i := by omega
                subst this
                rw [hlj] at h4; cases h4
            rw [getD_set_ne true (Ne.symm hij)] at h2; exact h2
        · by_cases hlm2 : lo P ops m = j + 1
          · rw [hlm2]; simp only [upd, if_true]; exact .inr (Ext.refl _)
          · simp only [upd, hlm2, if_false]
            have hE' : pureAt ops m = true ∨ Ext (H (lo P ops m)) w := by
              refine hE m hmt ?_
              rcases hlm with h1 | ⟨i, h1, h2⟩
              · exact .inl h1
              · refine .inr ⟨i, h1, ?_⟩
                rw [getD_set_ne true (by omega)] at h2; exact h2
            rcases hb with hb | hb
            · -- j is a bar: whoever is still to be done stands behind it
              unfold softAt softTail at hb
              rw [Bool.and_eq_true, List.all_eq_true, List.all_eq_true] at hb
              rcases Nat.lt_trichotomy m j with h1 | h1 | h1
              · have := hb.2 m (List.mem_range.2 h1)
                rw [hnot m hml', Bool.false_or] at this; exact .inl this
              · exact absurd h1 hmj
              · have hjm := hb.1 m (List.mem_range.2 hmlt)
                have hjm2 : inB ops j m = true ∨ pureAt ops m = true := by simpa [Nat.not_le.2 h1] using hjm
                rcases hjm2.symm with hpm | hjm'
                · exact .inl hpm
                exfalso
                have hge := lo_ge (P := P) h1 hlj hjm'
                rcases hlm with h2 | ⟨i, h2, h3⟩
                · omega
                · have hij : i ≠ j := by omega
                  have hlt' : j < i := by omega
                  obtain ⟨i2, e2, hi2, hl2, -⟩ := (lo_spec P ops m).resolve_left (by omega)
                  have hilt : i < ops.size := by omega
                  have hji := hb.1 i (List.mem_range.2 hilt)
                  have hji2 : inB ops j i = true ∨ pureAt ops i = true := by simpa [Nat.not_le.2 hlt'] using hji
                  have hii : i2 = i := by omega
                  have hji' : inB ops j i = true := hji2.resolve_right fun hp => by have := pure_light (P := P) hp; rw [hii] at hl2; rw [this] at hl2; cases hl2
                  rw [getD_set_ne true (Ne.symm hij)] at h3
                  have h3' : listed.getD i false = true := by
                    have : i < listed.size := by omega
                    simpa [this] using h3
                  have := hft j (hcl i h3' j hji')
                  rw [h0] at this; cases this
            · exact hE'.imp id fun h => h.trans hb

theorem chk_spec (hc : chk P ops = true) : ∀ j, j < ops.size → chkOne ops j = true ∧ ∀ i, i < j → chkPair P ops i j = true := by
  intro j hj
  unfold chk at hc
  rw [List.all_eq_true] at hc
  have := hc j (List.mem_range.2 hj)
  rw [Bool.and_eq_true, List.all_eq_true] at this
  exact ⟨this.1, fun i hi => this.2 i (List.mem_range.2 hi)⟩

theorem rob_any (hc : chk P ops = true) (fuel : Nat) (listed : Array Bool) (H : Nat → World) (a : Act) (w : World) (hs : listed.size = ops.size) (hn : (todoOf ops.size listed).length = fuel)
    (hcl : ∀ j, listed.getD j false = true → ∀ i, inB ops i j = true → listed.getD i false = true)
    (hE : ∀ i ∈ todoOf ops.size listed, (lo P ops i = 0 ∨ ∃ j, lo P ops i = j + 1 ∧ listed.getD j true = true) → (pureAt ops i = true ∨ Ext (H (lo P ops i)) w))
    (h : Rob P B ops k (todoOf ops.size listed) H a w) : wpAny P .any ops (After P B k) fuel listed a w :=
  rob_anyW (fun j hj => (chk_spec hc j hj).1) fuel listed H a w hs hn (fun i j hij hj _ _ => (chk_spec hc j hj).2 i hij) hcl hE h

end
end Go.PM
