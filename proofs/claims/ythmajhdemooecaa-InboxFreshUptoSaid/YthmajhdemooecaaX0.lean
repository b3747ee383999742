/- The small walk: from a list of items on, a function's post is met; what is plain is reckoned by the kernel. -/
import Derived.Orders
import Derived.KernelRfl
import Derived.Below
namespace Go.PM
set_option linter.unusedVariables false
set_option linter.unusedSimpArgs false

/-- Steps of a `Sem` that look at nothing in the world. -/
def calm {α : Type} (P : Program) : Sem α → Option α
  | .pure a => some a
  | .program k => calm P (k P)
  | _ => none

theorem calm_run {α : Type} {P : Program} (s : Sem α) : ∀ {a : α}, calm P s = some a → ∀ w, s.run P w = .ok a w := by
  induction s with
  | pure a => intro b h w; simp only [calm, Option.some.injEq] at h; subst h; rfl
  | program k ih => intro b h w; exact ih P h w
  | _ => intro b h; simp [calm] at h

/-- From these items on the post is met. -/
def Run (P : Program) (B : Exit → Act → World → Prop) (σ : List Item × Act) (w : World) : Prop :=
  ∀ (b : Frame) (k : List Item) (cs : List Frame),
    ∃ e a' w', B e a' w' ∧ Arrives P (lone (b.at σ.2 (σ.1 ++ k)) cs w) b k cs e a' w'

section
variable {P : Program} {B : Exit → Act → World → Prop}

theorem wp_of_run {c : Code} {a : Act} {w : World} (h : Run P B ([.code c], a) w) : c.wp P B a w := h

theorem run_nil {a : Act} {w : World} (h : B .normal a w) : Run P B ([], a) w := fun _ _ _ => ⟨.normal, a, w, h, Steps.refl _ _⟩

theorem run_step {t t' : List Item} {a a' : Act} {w w' : World}
    (h : ∀ (b : Frame) (k : List Item) (cs : List Frame), step P (lone (b.at a (t ++ k)) cs w) = .next (lone (b.at a' (t' ++ k)) cs w'))
    (H : Run P B (t', a') w') : Run P B (t, a) w := fun b k cs =>
  let ⟨e, a2, w2, hq, hr⟩ := H b k cs
  ⟨e, a2, w2, hq, .of_steps (.one (h b k cs)) hr⟩

theorem exitTo_app (id : Nat) : ∀ (t k : List Item) (t' : List Item), exitTo id t = some t' → exitTo id (t ++ k) = some (t' ++ k) := by
  intro t
  induction t with
  | nil => intro k t' h; simp [exitTo] at h
  | cons x t ih =>
    intro k t' h
    cases x with
    | inBlock i =>
      simp only [exitTo, List.cons_append] at h ⊢
      split at h
      · rename_i hi; simp only [hi, if_true]; simp only [Option.some.injEq] at h; rw [h]
      · rename_i hi; simp only [hi]; exact ih k t' h
    | _ => exact ih k t' h

/-- What is done without a look at anything but the list. -/
def ctl : List Item → Option (List Item)
  | .code .skip :: k => some k
  | .code (.label _) :: k => some k
  | .inBlock _ :: k => some k
  | .inScope _ :: k => some k
  | .code (.seq x y) :: k => some (.code x :: .code y :: k)
  | .code (.block id c) :: k => some (.code c :: .inBlock id :: k)
  | .code (.scope c) :: k => some (.code c :: .inScope c :: k)
  | .code (.exit id) :: k => exitTo id k
  | .code (.region _ ops false) :: k => some (.inRegion ops (List.range ops.size) :: k)
  | .inRegion _ [] :: k => some k
  | _ => none

theorem run_ctl : ∀ {t t' : List Item} {a : Act} {w : World}, ctl t = some t' → Run P B (t', a) w → Run P B (t, a) w
  | .code .skip :: k, _, _, _, hc, H => by
    simp only [ctl, Option.some.injEq] at hc; subst hc; exact run_step (fun b k cs => step_skip) H
  | .code (.label _) :: k, _, _, _, hc, H => by
    simp only [ctl, Option.some.injEq] at hc; subst hc; exact run_step (fun b k cs => step_label) H
  | .inBlock _ :: k, _, _, _, hc, H => by
    simp only [ctl, Option.some.injEq] at hc; subst hc; exact run_step (fun b k cs => step_inBlock) H
  | .inScope _ :: k, _, _, _, hc, H => by
    simp only [ctl, Option.some.injEq] at hc; subst hc
    exact run_step (fun b k cs => step_lone_go (by simp [stepG, stepG.exec, Frame.at])) H
  | .code (.seq x y) :: k, _, _, _, hc, H => by
    simp only [ctl, Option.some.injEq] at hc; subst hc; exact run_step (fun b k cs => step_seq) H
  | .code (.block id c) :: k, _, _, _, hc, H => by
    simp only [ctl, Option.some.injEq] at hc; subst hc; exact run_step (fun b k cs => step_block) H
  | .code (.scope c) :: k, _, _, _, hc, H => by
    simp only [ctl, Option.some.injEq] at hc; subst hc
    exact run_step (fun b k cs => step_lone_go (by simp [stepG, stepG.exec, Frame.at])) H
  | .code (.exit id) :: k, _, _, _, hc, H => by
    simp only [ctl] at hc; exact run_step (fun b k cs => step_exit (exitTo_app _ _ _ _ hc)) H
  | .code (.region _ ops false) :: k, _, _, _, hc, H => by
    simp only [ctl, Option.some.injEq] at hc; subst hc; exact run_step (fun b k cs => step_region) H
  | .inRegion _ [] :: k, _, _, _, hc, H => by
    simp only [ctl, Option.some.injEq] at hc; subst hc; exact run_step (fun b k cs => step_region_end) H
  | [], _, _, _, hc, _ => by simp [ctl] at hc
  | .code (.cond ..) :: _, _, _, _, hc, _ => by simp [ctl] at hc
  | .code (.loop ..) :: _, _, _, _, hc, _ => by simp [ctl] at hc
  | .code (.rangeFunc ..) :: _, _, _, _, hc, _ => by simp [ctl] at hc
  | .code (.goto ..) :: _, _, _, _, hc, _ => by simp [ctl] at hc
  | .code .ret :: _, _, _, _, hc, _ => by simp [ctl] at hc
  | .code (.refuse ..) :: _, _, _, _, hc, _ => by simp [ctl] at hc
  | .code (.region _ _ true) :: _, _, _, _, hc, _ => by simp [ctl] at hc
  | .inLoop _ :: _, _, _, _, hc, _ => by simp [ctl] at hc
  | .inRegion _ (_ :: _) :: _, _, _, _, hc, _ => by simp [ctl] at hc
  | .inRangeFunc _ :: _, _, _, _, hc, _ => by simp [ctl] at hc
  | .endRangeFunc _ :: _, _, _, _, hc, _ => by simp [ctl] at hc
  | .beginRound :: _, _, _, _, hc, _ => by simp [ctl] at hc
  | .call .. :: _, _, _, _, hc, _ => by simp [ctl] at hc
  | .extern .. :: _, _, _, _, hc, _ => by simp [ctl] at hc

/-- A bound that is not there or is written out. -/
def constO : Option Operand → Bool
  | none => true
  | some (.const _) => true
  | _ => false
def isArr (P : Program) (t : TypeId) : Bool := match P.underlying t with | some (.array _ _) => true | _ => false
def isBuilt (P : Program) (t : TypeId) : Bool := match P.underlying t with | some (.array _ _) => true | some (.struct _) => true | _ => false
def isInt (P : Program) (t : TypeId) : Bool := match P.underlying t with | some (.int _) => true | _ => false

/-- The operations that are reckoned unasked. -/
def autoOp (P : Program) : Op → Bool
  | .move _ | .assign _ | .pick .. | .build .. | .fieldAddr .. | .field .. | .extract .. | .nilCheck _ | .makeFunc .. | .unOp .. | .sliceToArrayPointer .. => true
  | .indexAddr t _ (.const _) => isArr P t
  | .slice t _ l h m => isArr P t && constO l && constO h && constO m
  | .convert src dst _ => isInt P src && isInt P dst
  | .binOp op t _ y _ =>
    match op with
    | .add | .sub | .mul | .lss | .leq | .gtr | .geq | .and | .or | .xor | .andNot => true
    | .eql | .neq => !isBuilt P t
    | .shl | .shr => (match y with | .const (.int _ n) => decide (0 ≤ n) | _ => false)
    | .quo | .rem => (match y with | .const (.int _ n) => decide (n ≠ 0) | _ => false)
  | .call { callee := .builtin .len, .. } | .call { callee := .builtin .cap, .. } => true
  | _ => false

/-- Is the operation's yes or no asked by a later one of the region? -/
def asks (ops : Array Oper) (i : Nat) : Bool := ops.any fun o => match o.guard with | some (j, _) => j == i | none => false

def calmStep (P : Program) (ops : Array Oper) (i : Nat) (a : Act) : Option Act :=
  match ops[i]? with
  | none => none
  | some o =>
    if Region.wanted o (yielded ops a.tmps) then
      (match calm P (execOp a.eval o) with | some (.value v) => some (a.put o.dst v) | _ => none)
    else some (a.put o.dst undef)

def adv (P : Program) : Nat → List Item × Act → List Item × Act
  | 0, σ => σ
  | n + 1, σ =>
    match ctl σ.1 with
    | some t' => adv P n (t', σ.2)
    | none =>
      match σ.1 with
      | .inRegion ops (i :: r) :: k =>
        if !Region.wanted (ops.getD i default) (yielded ops σ.2.tmps) || (autoOp P (ops.getD i default).op && !asks ops i) then
          match calmStep P ops i σ.2 with
          | some a' => adv P n (.inRegion ops r :: k, a')
          | none => σ
        else σ
      | _ => σ

/-- One operation: what may come of it. -/
theorem run_op {ops : Array Oper} {i : Nat} {r : List Nat} {k : List Item} {a : Act} {w : World} {o : Oper}
    (ho : ops[i]? = some o) (hw : Region.wanted o (yielded ops a.tmps) = true)
    (h : o.upon P a (fun a' w' => Run P B (.inRegion ops r :: k, a') w') (fun | .panic c, a', w' => B (.panic c) a' w' | .outgrown, a', w' => B .outgrown a' w' | _, _, _ => False) ((execOp a.eval o).run P w)) :
    Run P B (.inRegion ops (i :: r) :: k, a) w := by
  intro b k2 cs
  have hg := stepG_op (P := P) (b := b) (a := a) (k := k ++ k2) (cs := cs) (w := w) (rest := r) ho hw
  have hfin : ∀ v, (b.at a (.inRegion ops (i :: r) :: (k ++ k2))).finish v = b.at (a.put o.dst v) (.inRegion ops r :: (k ++ k2)) := by
    intro v; rw [Frame.finish_at, ho]; rfl
  simp only [Oper.upon] at h
  show ∃ e a' w', B e a' w' ∧ Arrives P (lone (b.at a (.inRegion ops (i :: r) :: (k ++ k2))) cs w) b k2 cs e a' w'
  split at h
  · rename_i v w' hr
    obtain ⟨e, a', w'', hq, harr⟩ := h b k2 cs
    refine ⟨e, a', w'', hq, .of_steps (.one (step_lone_go ?_)) harr⟩
    rw [hg, List.cons_append, ← hfin]; simp [stepG.apply, hr]
  · rename_i w' hr
    obtain ⟨e, a', w'', hq, harr⟩ := h b k2 cs
    refine ⟨e, a', w'', hq, .of_steps (.one (step_lone_go ?_)) harr⟩
    rw [hg, List.cons_append, ← hfin]; simp [stepG.apply, hr]
  · rename_i d w' hr
    obtain ⟨e, a', w'', hq, harr⟩ := h b k2 cs
    refine ⟨e, a', w'', hq, .of_steps (.one (step_lone_go ?_)) harr⟩
    have : ({ b.at a (.inRegion ops (i :: r) :: (k ++ k2)) with defers := d :: a.defers } : Frame).finish undef =
        b.at ({ a with defers := d :: a.defers }.put o.dst undef) (.inRegion ops r :: (k ++ k2)) := by
      have := Frame.finish_at b { a with defers := d :: a.defers } ops i r (k ++ k2) undef
      rw [ho] at this; exact this
    rw [hg]; simp only [stepG.apply, Sem.runT_eq, hr, GStep.bare_after]
    exact congrArg (fun fr => GStep.go { frame := fr, callers := cs, status := .running, dying := none } w') this
  · rename_i f args w' hr
    obtain ⟨e, w'', fr, hR, hsteps, _, hleave⟩ := h (b.at a (.inRegion ops (i :: r) :: (k ++ k2)) :: cs)
    have henter : step P (lone (b.at a (.inRegion ops (i :: r) :: (k ++ k2))) cs w) =
        .next (lone (Frame.enter P f args .normal) (b.at a (.inRegion ops (i :: r) :: (k ++ k2)) :: cs) w') :=
      step_lone_go (by rw [hg]; simp [stepG.apply, hr, Frame.at])
    cases e with
    | returned v =>
      obtain ⟨e, a', w3, hq, harr⟩ := hR b k2 cs
      refine ⟨e, a', w3, hq, .of_steps (.head henter (hsteps.trans (.one ?_))) harr⟩
      rw [List.cons_append, ← hfin]; exact step_leave_returned hleave
    | panicked chain =>
      refine ⟨.panic chain, a, w'', hR, .inRegion ops (i :: r) :: (k ++ k2), .head henter (hsteps.trans (.one ?_))⟩
      rw [← Frame.raise_at]; exact step_leave_panicked hleave
    | outgrown =>
      obtain ⟨a0, w0, hq⟩ := hR
      exact ⟨.outgrown, a0, w0, hq, .inr (Outgrown.of_steps (.one henter) hsteps)⟩
  · rename_i row args w' hr
    obtain ⟨v, w'', hR, hsteps⟩ := h (b.at a (.inRegion ops (i :: r) :: (k ++ k2))) cs
    have henter : step P (lone (b.at a (.inRegion ops (i :: r) :: (k ++ k2))) cs w) =
        .next (lone (Frame.ofRow P row args .normal) (b.at a (.inRegion ops (i :: r) :: (k ++ k2)) :: cs) w') :=
      step_lone_go (by rw [hg]; simp [stepG.apply, hr, Frame.at])
    obtain ⟨e, a', w3, hq, harr⟩ := hR b k2 cs
    refine ⟨e, a', w3, hq, .of_steps (.head henter ?_) harr⟩
    rw [List.cons_append, ← hfin]; exact hsteps
  · rename_i v w' hr
    refine ⟨_, a, w', h, .inRegion ops (i :: r) :: (k ++ k2), .one (step_lone_go ?_)⟩
    rw [hg, ← Frame.raise_at]; simp [stepG.apply, hr]
  · exact h.elim

theorem run_skip {ops : Array Oper} {i : Nat} {r : List Nat} {k : List Item} {a : Act} {w : World} {o : Oper}
    (ho : ops[i]? = some o) (hw : Region.wanted o (yielded ops a.tmps) = false)
    (h : Run P B (.inRegion ops r :: k, a.put o.dst undef) w) : Run P B (.inRegion ops (i :: r) :: k, a) w := by
  refine run_step (fun b k2 cs => ?_) h
  have hs := step_op_skip (P := P) (b := b) (a := a) (k := k ++ k2) (cs := cs) (w := w) (ops := ops) (i := i) (rest := r) (by simp [ho]; simpa using hw)
  simp only [ho, Option.bind_some] at hs
  exact hs

theorem run_calm {ops : Array Oper} {i : Nat} {r : List Nat} {k : List Item} {a a' : Act} {w : World}
    (h : calmStep P ops i a = some a') (H : Run P B (.inRegion ops r :: k, a') w) : Run P B (.inRegion ops (i :: r) :: k, a) w := by
  unfold calmStep at h
  split at h
  · cases h
  · rename_i o ho
    split at h
    · rename_i hw
      split at h
      · rename_i v hv
        simp only [Option.some.injEq] at h
        refine run_op ho hw ?_
        rw [calm_run _ hv w]
        show Run P B (.inRegion ops r :: k, a.put o.dst v) w
        rw [h]; exact H
      · cases h
    · rename_i hw
      simp only [Option.some.injEq] at h
      refine run_skip ho (by simpa using hw) ?_
      rw [h]; exact H

theorem run_adv (n : Nat) : ∀ {σ : List Item × Act} {w : World}, Run P B (adv P n σ) w → Run P B σ w := by
  induction n with
  | zero => intro σ w h; exact h
  | succ n ih =>
    intro σ w h
    unfold adv at h
    split at h
    · rename_i t' hc
      exact run_ctl (a := σ.2) hc (ih h)
    · split at h
      · rename_i ops i r k he
        obtain ⟨t, a⟩ := σ
        simp only at he
        subst he
        split at h
        · split at h
          · rename_i a' ha
            exact run_calm ha (ih h)
          · exact h
        · exact h
      · exact h

end
end Go.PM
