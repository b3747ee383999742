/- A round of a range over a function. -/
import Derived.Test.YthmajhdemooecaaXA
import Derived.AtR
import Derived.RangeFuncIn
import Derived.RangeFuncRecord
namespace Go.PM
set_option linter.unusedVariables false
set_option linter.unusedSimpArgs false
set_option linter.unnecessarySimpa false
open Go.RowKit

section
variable {P : Program} {l : Nat} {B : Act → World → Prop}

/-- In a round's frame: these items are done, and the post is met. -/
def RunR (P : Program) (l : Nat) (B : Act → World → Prop) (σ : List Item × Act) (w : World) : Prop :=
  ∀ (b : Frame) (k : List Item) (cs : List Frame), b.roundOf = some l →
    ∃ a' w', B a' w' ∧ Steps P (lone (b.atR σ.2 (σ.1 ++ k)) cs w) (lone (b.atR a' k) cs w')

theorem runR_nil {a : Act} {w : World} (h : B a w) : RunR P l B ([], a) w := fun _ _ _ _ => ⟨a, w, h, Steps.refl _ _⟩
theorem runR_step {t t' : List Item} {a a' : Act} {w w' : World}
    (h : ∀ (b : Frame) (k : List Item) (cs : List Frame), step P (lone (b.atR a (t ++ k)) cs w) = .next (lone (b.atR a' (t' ++ k)) cs w'))
    (H : RunR P l B (t', a') w') : RunR P l B (t, a) w := fun b k cs hb =>
  let ⟨a2, w2, hq, hr⟩ := H b k cs hb
  ⟨a2, w2, hq, .head (h b k cs) hr⟩

theorem stepR_scope {b : Frame} {a : Act} {k : List Item} {cs : List Frame} {w : World} {c : Code} :
    step P (lone (b.atR a (.code (.scope c) :: k)) cs w) = .next (lone (b.atR a (.code c :: .inScope c :: k)) cs w) :=
  step_lone_go (by simp [stepG, stepG.exec, Frame.atR])
theorem stepR_inScope {b : Frame} {a : Act} {k : List Item} {cs : List Frame} {w : World} {c : Code} :
    step P (lone (b.atR a (.inScope c :: k)) cs w) = .next (lone (b.atR a k) cs w) :=
  step_lone_go (by simp [stepG, stepG.exec, Frame.atR])

theorem runR_ctl : ∀ {t t' : List Item} {a : Act} {w : World}, ctl t = some t' → RunR P l B (t', a) w → RunR P l B (t, a) w
  | .code .skip :: k, _, _, _, hc, H => by
    simp only [ctl, Option.some.injEq] at hc; subst hc; exact runR_step (fun b k cs => stepR_skip) H
  | .code (.label _) :: k, _, _, _, hc, H => by
    simp only [ctl, Option.some.injEq] at hc; subst hc; exact runR_step (fun b k cs => stepR_label) H
  | .inBlock _ :: k, _, _, _, hc, H => by
    simp only [ctl, Option.some.injEq] at hc; subst hc; exact runR_step (fun b k cs => stepR_inBlock) H
  | .inScope _ :: k, _, _, _, hc, H => by
    simp only [ctl, Option.some.injEq] at hc; subst hc; exact runR_step (fun b k cs => stepR_inScope) H
  | .code (.seq x y) :: k, _, _, _, hc, H => by
    simp only [ctl, Option.some.injEq] at hc; subst hc; exact runR_step (fun b k cs => stepR_seq) H
  | .code (.block id c) :: k, _, _, _, hc, H => by
    simp only [ctl, Option.some.injEq] at hc; subst hc; exact runR_step (fun b k cs => stepR_block) H
  | .code (.scope c) :: k, _, _, _, hc, H => by
    simp only [ctl, Option.some.injEq] at hc; subst hc; exact runR_step (fun b k cs => stepR_scope) H
  | .code (.exit id) :: k, _, _, _, hc, H => by
    simp only [ctl] at hc; exact runR_step (fun b k cs => stepR_exit (exitTo_app _ _ _ _ hc)) H
  | .code (.region _ ops false) :: k, _, _, _, hc, H => by
    simp only [ctl, Option.some.injEq] at hc; subst hc; exact runR_step (fun b k cs => stepR_region) H
  | .inRegion _ [] :: k, _, _, _, hc, H => by
    simp only [ctl, Option.some.injEq] at hc; subst hc; exact runR_step (fun b k cs => stepR_region_end) H
  | [], _, _, _, hc, _ => by simp [ctl] at hc
  | .code (.cond ..) :: _, _, _, _, hc, _ => by simp [ctl] at hc
  | .code (.loop ..) :: _, _, _, _, hc, _ => by simp [ctl] at hc
  | .code (.rangeFunc ..) :: _, _, _, _, hc, _ => by simp [ctl] at hc
  | .code (.goto ..) :: _, _, _, _, hc, _ => by simp [ctl] at hc
  | .code .ret :: _, _, _, _, hc, _ => by simp [ctl] at hc
  | .code (.refuse ..) :: _, _, _, _, hc, _ => by simp [ctl] at hc
  | .code (.region _ _ true) :: _, _, _, _, hc, _ => by simp [ctl] at hc
  | .inLoop _ :: _, _, _, _, hc, _ => by simp [ctl] at hc
  | .inRegion _ (_ :: _) :: _, _, _, _, hc, _ => by simp [ctl] at hc
  | .inRangeFunc _ :: _, _, _, _, hc, _ => by simp [ctl] at hc
  | .endRangeFunc _ :: _, _, _, _, hc, _ => by simp [ctl] at hc
  | .beginRound :: _, _, _, _, hc, _ => by simp [ctl] at hc
  | .call .. :: _, _, _, _, hc, _ => by simp [ctl] at hc
  | .extern .. :: _, _, _, _, hc, _ => by simp [ctl] at hc

theorem stepR_val {b : Frame} {a : Act} {k : List Item} {cs : List Frame} {w w' : World} {ops : Array Oper} {i : Nat} {r : List Nat} {o : Oper} {v : Value} (ho : ops[i]? = some o) (hw : Region.wanted o (yielded ops a.tmps) = true)
    (hd : ∀ c, o.op ≠ .defer c) (hr : (execOp a.eval o).run P w = .ok (.value v) w') :
    step P (lone (b.atR a (.inRegion ops (i :: r) :: k)) cs w) = .next (lone (b.atR (a.put o.dst v) (.inRegion ops r :: k)) cs w') := by
  have hfin := Frame.finish_atR b a ops i r k v
  rw [ho] at hfin
  simp only [Option.bind_some] at hfin
  rw [← hfin]
  refine step_lone_go ?_
  rw [stepGR_op ho hw, Oper.semAt_eq _ _ _ hd]
  simp [stepG.apply, Sem.runT_eq, hr]
theorem stepR_unit {b : Frame} {a : Act} {k : List Item} {cs : List Frame} {w w' : World} {ops : Array Oper} {i : Nat} {r : List Nat} {o : Oper} (ho : ops[i]? = some o) (hw : Region.wanted o (yielded ops a.tmps) = true)
    (hd : ∀ c, o.op ≠ .defer c) (hr : (execOp a.eval o).run P w = .ok .skip w') :
    step P (lone (b.atR a (.inRegion ops (i :: r) :: k)) cs w) = .next (lone (b.atR (a.put o.dst undef) (.inRegion ops r :: k)) cs w') := by
  have hfin := Frame.finish_atR b a ops i r k undef
  rw [ho] at hfin
  simp only [Option.bind_some] at hfin
  rw [← hfin]
  refine step_lone_go ?_
  rw [stepGR_op ho hw, Oper.semAt_eq _ _ _ hd]
  simp [stepG.apply, Sem.runT_eq, hr]

theorem auto_not_defer {o : Op} (h : autoOp P o = true) : ∀ c, o ≠ .defer c := by
  rintro c rfl
  simp [autoOp] at h

theorem runR_adv (n : Nat) : ∀ {σ : List Item × Act} {w : World}, RunR P l B (adv P n σ) w → RunR P l B σ w := by
  induction n with
  | zero => intro σ w h; exact h
  | succ n ih =>
    intro σ w h
    unfold adv at h
    split at h
    · rename_i t' hc
      exact runR_ctl (a := σ.2) hc (ih h)
    · split at h
      · rename_i ops i r k he
        obtain ⟨t, a⟩ := σ
        simp only at he
        subst he
        split at h
        · rename_i hauto
          split at h
          · rename_i a' ha
            have H := ih h
            unfold calmStep at ha
            split at ha
            · cases ha
            · rename_i o ho
              have hoo : ops.getD i default = o := by simp [ho]
              split at ha
              · rename_i hw
                split at ha
                · rename_i v hv
                  simp only [Option.some.injEq] at ha
                  subst ha
                  rw [hoo, hw] at hauto
                  simp only [Bool.not_true, Bool.false_or, Bool.and_eq_true] at hauto
                  exact runR_step (fun b k cs => stepR_val ho hw (auto_not_defer hauto.1) (calm_run _ hv w)) H
                · cases ha
              · rename_i hw
                simp only [Option.some.injEq] at ha
                subst ha
                refine runR_step (fun b k2 cs => ?_) H
                have := stepR_op_skip (P := P) (b := b) (a := a) (k := k ++ k2) (cs := cs) (w := w) (ops := ops) (i := i) (rest := r) (by simp [ho]; simpa using hw)
                rw [ho] at this
                exact this
          · exact h
        · exact h
      · exact h

def notDefer (σ : List Item × Act) : Bool := match (opOf σ).op with | .defer _ => false | _ => true

theorem runR_val {σ : List Item × Act} {w w' : World} {v : Value} (hk : opOk σ = true) (hd : notDefer σ = true) (h : (execOp σ.2.eval (opOf σ)).run P w = .ok (.value v) w') (H : RunR P l B (adv P fuel (nxt σ v)) w') : RunR P l B σ w := by
  obtain ⟨t, a⟩ := σ
  unfold opOk at hk
  simp only at hk
  split at hk
  · rename_i ops i r k
    simp only [Bool.and_eq_true, decide_eq_true_eq] at hk
    have ho : ops[i]? = some (ops.getD i default) := by simp [Array.getElem?_eq_getElem hk.1]
    have hnd : ∀ c, (ops.getD i default).op ≠ .defer c := by
      intro c hc
      have hd' : (match (ops.getD i default).op with | .defer _ => false | _ => true) = true := hd
      rw [hc] at hd'
      cases hd'
    exact runR_step (fun b k cs => stepR_val ho hk.2 hnd h) (runR_adv fuel H)
  · cases hk
theorem runR_unit {σ : List Item × Act} {w w' : World} (hk : opOk σ = true) (hd : notDefer σ = true) (h : (execOp σ.2.eval (opOf σ)).run P w = .ok .skip w') (H : RunR P l B (adv P fuel (nxt σ undef)) w') : RunR P l B σ w := by
  obtain ⟨t, a⟩ := σ
  unfold opOk at hk
  simp only at hk
  split at hk
  · rename_i ops i r k
    simp only [Bool.and_eq_true, decide_eq_true_eq] at hk
    have ho : ops[i]? = some (ops.getD i default) := by simp [Array.getElem?_eq_getElem hk.1]
    have hnd : ∀ c, (ops.getD i default).op ≠ .defer c := by
      intro c hc
      have hd' : (match (ops.getD i default).op with | .defer _ => false | _ => true) = true := hd
      rw [hc] at hd'
      cases hd'
    exact runR_step (fun b k cs => stepR_unit ho hk.2 hnd h) (runR_adv fuel H)
  · cases hk
end

/-! a loop's record -/
def Ck.obj (l : Nat) (o : Obj) : Ck where
  h := fun w S => w.heap[l]? = some o ∧ S l
  loc := fun {w w' S} ⟨h1, h2⟩ hk => ⟨by rw [hk l h2 (Array.getElem?_eq_some_iff.1 h1).1]; exact h1, h2⟩
  trim := fun ⟨h1, h2⟩ => ⟨h1, h2, (Array.getElem?_eq_some_iff.1 h1).1⟩

section
variable {P : Program}
theorem HS.obj {w0 w : World} {L : List Ck} (h : HS w0 w L) (n : Nat) {l : Nat} {o : Obj} (hn : L[n]? = some (Ck.obj l o)) : w.heap[l]? = some o := by
  obtain ⟨S, h1, -⟩ := h.nth n hn
  exact h1.1

theorem HS.putObj0 {w0 w : World} {L : List Ck} {l : Nat} {o : Obj} (h : HS w0 w (Ck.obj l o :: L)) (o' : Obj) : HS w0 (w.putObj l o') (Ck.obj l o' :: L) := by
  refine HS.step h fun S hS _ => ⟨S, ⟨?_, hS.2⟩, fun k hk => .inl hk, ?_⟩
  · have := (Array.getElem?_eq_some_iff.1 hS.1).1
    exact World.putObj_heap_same this
  · refine ⟨rfl, rfl, rfl, by simp, fun k hk hs => ?_⟩
    have : k ≠ l := fun h => hs (h ▸ hS.2)
    exact World.putObj_heap_other this

theorem HS.allocObj {w0 w : World} {L : List Ck} (h : HS w0 w L) (o : Obj) : HS w0 (w.alloc o) (Ck.obj w.heap.size o :: L) :=
  h.new (S := fun k => k = w.heap.size) ((Below.refl _ w).alloc (Nat.le_refl _) o) ⟨World.alloc_heap_new w o, rfl⟩ fun k hk => by omega


/-! a call of yield -/
def yieldArg (a : Act) (o : Oper) : Option (Nat × Array Value) :=
  match o.op with
  | .call { callee := .value f, args, .. } => (match a.eval f with | .func (.yield l) first captured => some (l, first ++ args.map a.eval) | _ => none)
  | _ => none
theorem op_yield {a : Act} {o : Oper} {l : Nat} {args : Array Value} {r : Loop} {w : World} (ho : yieldArg a o = some (l, args)) (hl : w.heap[l]? = some (.loop r)) (hs : args.size = r.params.size) :
    (execOp a.eval o).run P w = .ok (.round l r.fn ((r.params.zip args).foldl (fun tmps (t, a) => tmps.setIfInBounds t a) r.tmps) r.assign r.body) w := by
  unfold yieldArg at ho
  split at ho
  · rename_i f' args' ats hop
    split at ho
    · rename_i g first captured hf
      simp only [Option.some.injEq, Prod.mk.injEq] at ho
      obtain ⟨rfl, rfl⟩ := ho
      unfold execOp
      rw [hop]
      simp only [resolve, hf, Deferred.ofValue]
      show Sem.run P (invoke (.fn (.yield g) captured) (first ++ args'.map a.eval)) w = _
      exact run_yield hl hs
    · cases ho
  · cases ho

/-- A round: the assignment, the body; its end is 'true' to the iterator. -/
theorem run_round {B : Exit → Act → World → Prop} {σ : List Item × Act} {w : World} {l : Nat} {args : Array Value} {rec : Loop} (hk : opOk σ = true) (ho : yieldArg σ.2 (opOf σ) = some (l, args)) (hl : w.heap[l]? = some (.loop rec)) (hs : args.size = rec.params.size)
    (h : RunR P l (fun a1 w1 => ∃ rec1, w1.heap[l]? = some (.loop rec1) ∧ rec1.state = .ready ∧
      RunR P l (fun a2 w2 => ∃ rec2, w2.heap[l]? = some (.loop rec2) ∧ Run P B (adv P fuel (nxt σ (.bool true))) (w2.putObj l (.loop { rec2 with state := .ready, pending := none })))
        ([.code rec.body], a1) (w1.putObj l (.loop { rec1 with state := .busy })))
      ([.code rec.assign], { tmps := (rec.params.zip args).foldl (fun tmps (t, a) => tmps.setIfInBounds t a) rec.tmps, defers := [] }) w) : Run P B σ w := by
  obtain ⟨t, a⟩ := σ
  unfold opOk at hk
  simp only at hk
  split at hk
  · rename_i ops i r k
    simp only [Bool.and_eq_true, decide_eq_true_eq] at hk
    have hoi : ops[i]? = some (ops.getD i default) := by simp [Array.getElem?_eq_getElem hk.1]
    intro b k2 cs
    have hop := op_yield (P := P) ho hl hs
    generalize (rec.params.zip args).foldl (fun tmps (t, a) => tmps.setIfInBounds t a) rec.tmps = T at hop h
    have hg := stepG_op (P := P) (b := b) (a := a) (k := k ++ k2) (cs := cs) (w := w) (rest := r) hoi hk.2
    let bR : Frame := { (default : Frame) with fn := rec.fn, kind := .normal, roundOf := some l }
    have hb0 : Frame.round l rec.fn T rec.assign rec.body .normal =
        bR.atR { tmps := T, defers := [] } [.code rec.assign, .beginRound, .code rec.body] := by
      simp [Frame.round, Frame.atR, bR]
    have henter : step P (lone (b.at a (.inRegion ops (i :: r) :: (k ++ k2))) cs w) =
        .next (lone (Frame.round l rec.fn T rec.assign rec.body .normal) (b.at a (.inRegion ops (i :: r) :: (k ++ k2)) :: cs) w) := by
      refine step_lone_go ?_
      rw [hg]
      have hop' : (execOp a.eval (ops.getD i default)).run P w = .ok (.round l rec.fn T rec.assign rec.body) w := hop
      generalize execOp a.eval (ops.getD i default) = sm at hop'
      simp [stepG.apply, hop', Frame.at]
    obtain ⟨a1, w1, ⟨rec1, hl1, hst, hbody⟩, s1⟩ := h bR [.beginRound, .code rec.body] (b.at a (.inRegion ops (i :: r) :: (k ++ k2)) :: cs) rfl
    have s2 := stepR_beginRound (P := P) (b := bR) (a := a1) (k := [.code rec.body]) (cs := b.at a (.inRegion ops (i :: r) :: (k ++ k2)) :: cs) rfl (run_beginRound hl1 hst)
    obtain ⟨a2, w2, ⟨rec2, hl2, hrun⟩, s3⟩ := hbody bR [] (b.at a (.inRegion ops (i :: r) :: (k ++ k2)) :: cs) rfl
    have s4 := stepR_round_end (P := P) (b := bR) (a := a2) (cs := cs) (c := b.at a (.inRegion ops (i :: r) :: (k ++ k2))) rfl rfl (run_endRound none hl2)
    have hfin : (b.at a (.inRegion ops (i :: r) :: (k ++ k2))).finish (.bool true) = b.at (a.put (ops.getD i default).dst (.bool true)) (.inRegion ops r :: (k ++ k2)) := by
      rw [Frame.finish_at, hoi]; rfl
    obtain ⟨e, a3, w3, hq, harr⟩ := (run_adv fuel hrun : Run P B (.inRegion ops r :: k, a.put (ops.getD i default).dst (.bool true)) _) b k2 cs
    refine ⟨e, a3, w3, hq, .of_steps (.head henter ?_) harr⟩
    rw [hb0]
    refine Steps.trans s1 (.head s2 (Steps.trans s3 (.one ?_)))
    rw [s4]
    have : (b.at a (.inRegion ops (i :: r) :: (k ++ k2))).finish (.bool (none : Option Code).isNone) = b.at (a.put (ops.getD i default).dst (.bool true)) (.inRegion ops r :: (k ++ k2)) := hfin
    rw [this]
    rfl
  · cases hk

/-! the statement -/
def rfArg (σ : List Item × Act) : Option (FuncId × Array Value × Array Value) := match σ.1 with
  | .code (.rangeFunc g _ _ _) :: _ => (match σ.2.eval g with | .func (.func gf) fst lb => some (gf, fst, lb) | _ => none)
  | _ => none
def rfPs (σ : List Item × Act) : Array Tmp := match σ.1 with | .code (.rangeFunc _ ps _ _) :: _ => ps | _ => #[]
def rfAs (σ : List Item × Act) : Code := match σ.1 with | .code (.rangeFunc _ _ x _) :: _ => x | _ => .skip
def rfBo (σ : List Item × Act) : Code := match σ.1 with | .code (.rangeFunc _ _ _ x) :: _ => x | _ => .skip
def rfRest (σ : List Item × Act) : List Item := match σ.1 with | .code (.rangeFunc ..) :: k => k | _ => []
def rfRec (σ : List Item × Act) (fn : FuncId) (d : Nat) (st : LoopState) : Loop := { state := st, pending := none, fn, tmps := σ.2.tmps, params := rfPs σ, assign := rfAs σ, body := rfBo σ, defers := d }

theorem run_range {B : Exit → Act → World → Prop} {σ : List Item × Act} {w w0 : World} {L : List Ck} {gf : FuncId} {fst lb : Array Value} (H : HS w0 w L) (hk : rfArg σ = some (gf, fst, lb)) (hp : plainFn P gf = true)
    (h : ∀ fn d l w1, HS w0 w1 (Ck.obj l (.loop (rfRec σ fn d .ready)) :: Ck.obj d (.deferred (some [])) :: L) → ∃ R, Calls P gf (fst ++ #[.func (.yield l) #[] #[]] ++ lb) w1 R ∧
      ∀ e w', R e w' → (∃ v, e = .returned v) ∧ HS w0 w' (Ck.obj l (.loop (rfRec σ fn d .ready)) :: []) ∧ ∀ w2, w2 = w'.putObj l (.loop (rfRec σ fn d .exhausted)) → Run P B (adv P fuel (rfRest σ, { σ.2 with defers := { target := .collected d, args := #[] } :: σ.2.defers })) w2) : Run P B σ w := by
  obtain ⟨t, a⟩ := σ
  unfold rfArg at hk
  simp only at hk
  split at hk
  · rename_i g ps assign body k
    split at hk
    · rename_i gf' fst' lb' hg
      simp only [Option.some.injEq, Prod.mk.injEq] at hk
      obtain ⟨rfl, rfl, rfl⟩ := hk
      intro b k2 cs
      let b0 : Frame := { b with roundOf := none }
      have hat : ∀ a t, b.at a t = b0.atR a t := fun a t => by simp [Frame.at, Frame.atR, b0]
      have H1 := (H.allocObj (.deferred (some []))).allocObj (.loop (rfRec (.code (.rangeFunc g ps assign body) :: k, a) b.fn w.heap.size .ready))
      have hsz : (w.alloc (.deferred (some []))).heap.size = w.heap.size + 1 := by simp
      rw [hsz] at H1
      obtain ⟨R, hc, hK⟩ := h b.fn w.heap.size (w.heap.size + 1) _ H1
      obtain ⟨W1, hW1⟩ : ∃ W1, W1 = (w.alloc (.deferred (some []))).alloc (.loop { state := .ready, pending := none, fn := b.fn, tmps := a.tmps, params := ps, assign, body, defers := w.heap.size }) := ⟨_, rfl⟩
      have he : (Instr.enterLoop b0.fn a.tmps ps assign body b0.roundOf).run P w = .ok (w.heap.size + 1, [{ target := .collected w.heap.size, args := #[] }]) W1 := by rw [hW1]; exact run_enterLoop_outer b.fn a.tmps ps assign body
      have hres : (resolve a.eval (rangeCall g (w.heap.size + 1)) 0).run P W1 = .ok { target := .fn (.func gf') lb', args := fst' ++ #[.func (.yield (w.heap.size + 1)) #[] #[]] } W1 := by
        have em : Array.map a.eval #[Operand.const (.func (.yield (w.heap.size + 1)) #[] #[])] = #[.func (.yield (w.heap.size + 1)) #[] #[]] := by simp [Act.eval]
        simp only [resolve, hg, Deferred.ofValue, em]
        rfl
      have hinv : (invoke (.fn (.func gf') lb') (fst' ++ #[.func (.yield (w.heap.size + 1)) #[] #[]])).run P W1 = .ok (.enter gf' (fst' ++ #[.func (.yield (w.heap.size + 1)) #[] #[]] ++ lb')) W1 := run_callFunc hp _ _
      have hc : Calls P gf' (fst' ++ #[.func (.yield (w.heap.size + 1)) #[] #[]] ++ lb') W1 R := by rw [hW1]; exact hc
      have henter := stepR_rangeFunc (P := P) (b := b0) (a := a) (k := k ++ k2) (cs := cs) he hres hinv
      obtain ⟨e, w3, fr, hR, hsteps, hfn, hleave⟩ := hc (b0.atR { a with defers := [{ target := .collected w.heap.size, args := #[] }] ++ a.defers } (.inRangeFunc (w.heap.size + 1) :: (k ++ k2)) :: cs)
      obtain ⟨⟨v, rfl⟩, H3, hrun⟩ := hK e w3 hR
      have hl3 := H3.obj 0 rfl
      have s2 := step_leave_returned (c := b0.atR { a with defers := [{ target := .collected w.heap.size, args := #[] }] ++ a.defers } (.inRangeFunc (w.heap.size + 1) :: (k ++ k2))) (cs := cs) hleave
      rw [finish_atR_inRangeFunc] at s2
      have s3 := stepR_endRangeFunc (P := P) (b := b0) (a := { a with defers := [{ target := .collected w.heap.size, args := #[] }] ++ a.defers }) (k := k ++ k2) (cs := cs) (run_endLoop hl3 (by simp [rfRec]))
      obtain ⟨e, a3, w4, hq, harr⟩ := (run_adv fuel (hrun _ rfl) : Run P B (k, _) _) b k2 cs
      refine ⟨e, a3, w4, hq, .of_steps (.head ?_ (Steps.trans hsteps (.head s2 (.one ?_)))) harr⟩
      · rw [List.cons_append, hat]
        exact henter
      · rw [s3, hat]
        rfl
    · cases hk
  · cases hk

/-! the end of a function that went over a range -/
def bodyPostM (P : Program) (fn : Func) (R : Ending → World → Prop) : Exit → Act → World → Prop
  | .normal, a, w | .ret, a, w => (a.defers = [] ∧ ∃ v, (results fn a.tmps).run P w = .ok v w ∧ R (.returned v) w) ∨
      ∃ d, a.defers = [{ target := .collected d, args := #[] }] ∧ w.heap[d]? = some (.deferred (some [])) ∧ ∃ v, (results fn a.tmps).run P (w.putObj d (.deferred none)) = .ok v (w.putObj d (.deferred none)) ∧ R (.returned v) (w.putObj d (.deferred none))
  | _, _, _ => False

theorem leaves_M {fn : Func} {R : Ending → World → Prop} {a : Act} {w : World} {fr : Frame} {cs : List Frame} (hm : fr.mode = .returning) (hd : fr.defers = a.defers) (ht : fr.tmps = a.tmps) (hf : P.funcs[fr.fn]? = some fn) (hk : fr.kind = .normal)
    (h : bodyPostM P fn R .ret a w) : ∃ e w' fr', R e w' ∧ Comes P (lone fr cs w) (lone fr' cs w') e ∧ fr'.fn = fr.fn ∧ fr'.leaving P w' e := by
  rcases h with ⟨h1, v, hr, hR⟩ | ⟨d, h1, hb, v, hr, hR⟩
  · exact ⟨.returned v, w, fr, hR, Steps.refl P _, rfl, hm, hd.trans h1, hk, fn, hf, ht ▸ hr⟩
  · have hs := step_collected (P := P) (cs := cs) (fr := fr) (by rw [hm]; simp) (hd.trans h1) rfl (run_takeDeferred hb)
    exact ⟨.returned v, _, { fr with defers := [] ++ [] }, hR, .one hs, rfl, hm, rfl, hk, fn, hf, ht ▸ hr⟩

theorem calls_runM {f : FuncId} {fn : Func} {args : Array Value} {w : World} {R : Ending → World → Prop} (hf : P.funcs[f]? = some fn) (hb : fn.body.isSome = true)
    (h : Run P (bodyPostM P fn R) (adv P fuel ([.code (fn.body.getD .skip)], { tmps := args ++ Array.replicate (fn.ntmps - args.size) undef, defers := [] })) w) : Calls P f args w R := by
  cases hc : fn.body with
  | none => rw [hc] at hb; cases hb
  | some c =>
    rw [hc] at h
    intro cs
    let b : Frame := { (default : Frame) with fn := f, kind := .normal }
    have henter : Frame.enter P f args .normal =
        b.at { tmps := args ++ Array.replicate (fn.ntmps - args.size) undef, defers := [] } [.code c] := by
      simp [Frame.enter, Frame.at, hf, hc, b]
    obtain ⟨e, a', w', hq, harr⟩ := (run_adv fuel h) b [] cs
    rw [List.append_nil] at harr
    rw [henter]
    cases e with
    | normal =>
      obtain ⟨e', w'', fr', hR, hs, hfn, hl⟩ := leaves_M (P := P) (fr := { b.at a' [] with mode := .returning }) (cs := cs) rfl rfl rfl hf rfl hq
      exact ⟨e', w'', fr', hR, Comes.of_steps (Steps.trans harr (.one step_end)) hs, hfn, hl⟩
    | ret =>
      obtain ⟨todo, hs₀⟩ := harr
      obtain ⟨e', w'', fr', hR, hs, hfn, hl⟩ := leaves_M (P := P) (fr := { b.at a' todo with mode := .returning }) (cs := cs) rfl rfl rfl hf rfl hq
      exact ⟨e', w'', fr', hR, Comes.of_steps hs₀ hs, hfn, hl⟩
    | panic chain => exact hq.elim
    | exit id => exact hq.elim
    | goto l => exact hq.elim
    | outgrown => exact hq.elim
end

/-! a row of its own, opened into its cells and its elements' data -/
section
variable {α : Type}
def Ck.els (d : Ty α) (xs : List α) (cs : List Value) : Ck where
  h := fun w S => ∀ j x, xs[j]? = some x → ∃ c, d.K w S x c ∧ ∀ i u, c[i]? = some u → cs[j * d.sz + i]? = some u
  loc := fun h hk j x hj => let ⟨c, h1, h2⟩ := h j x hj; ⟨c, d.loc h1 hk, h2⟩
  trim := fun h j x hj => let ⟨c, h1, h2⟩ := h j x hj; ⟨c, d.trim h1, h2⟩
theorem HS.open_own {w0 w : World} {L : List Ck} {d : Ty α} {e : TypeId} {v : Value} {xs : List α} (h : HS w0 w (Ck.own d e v xs :: L)) : ∃ cs, HS w0 w (Ck.row e d.sz v xs.length cs :: Ck.els d xs cs :: L) := by
  obtain ⟨h0, S, ⟨cs, hrow, hel⟩, h2, h3⟩ := h
  refine ⟨cs, h0, fun k => v.ownBlock = some k, ⟨hrow.1, fun b hb => hb⟩, fun k hk => h2 k (hrow.2 k hk), fun k => S k ∧ v.ownBlock ≠ some k, hel, fun k hk => ⟨h2 k hk.1, hk.2⟩, Sep.mono h3 fun k hk => ⟨⟨hk.1, fun hh => hk.2 (hrow.2 k hh)⟩, fun hh => hk.2 hh.1⟩⟩
end
end Go.PM
