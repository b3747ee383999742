/- The operations' laws: loads, stores, new memory, calls; the steps of a walk. -/
import Derived.Test.YthmajhdemooecaaX1
import Derived.Laws.World
import Derived.Laws.IdiomCopy
namespace Go.PM
set_option linter.unusedVariables false
set_option linter.unusedSimpArgs false
open Go.RowKit

theorem bind_run {α β : Type} (P : Program) (s : Sem α) (f : α → Sem β) : ∀ w, (s >>= f).run P w = (match s.run P w with | .ok a w' => (f a).run P w' | .halt h w' => .halt h w') := by
  show ∀ w, (Sem.bind s f).run P w = _
  induction s with
  | pure a => intro w; rfl
  | load m a k ih =>
    intro w
    simp only [Sem.bind, Sem.run]
    split
    · exact ih _ _
    · split
      · exact ih _ _
      · rfl
  | store m a v k ih =>
    intro w
    cases v <;> simp only [Sem.bind, Sem.run] <;> (repeat' split) <;> first | rfl | (simp_all; done) | exact ih _
  | new o k ih => intro w; exact ih _ _
  | shape r k ih => intro w; exact ih _ _
  | freeze a n k ih => intro w; exact ih _
  | frozen a k ih => intro w; exact ih _ _
  | getObj r k ih =>
    intro w
    simp only [Sem.bind, Sem.run]
    split
    · rfl
    · exact ih _ _
    · rfl
  | setObj r o k ih =>
    intro w
    simp only [Sem.bind, Sem.run]
    split
    · rfl
    · exact ih _
    · rfl
  | choose q k ih =>
    intro w
    simp only [Sem.bind, Sem.run]
    split
    · exact ih _ _
    · exact ih _ _
  | sys c k ih => intro w; exact ih _ _
  | program k ih => intro w; exact ih _ _
  | mark m k ih => intro w; exact ih _
  | halt h => intro w; rfl

theorem bind_ok {α β : Type} {P : Program} {s : Sem α} {f : α → Sem β} {w w' : World} {a : α} (h : s.run P w = .ok a w') : (s >>= f).run P w = (f a).run P w' := by
  rw [bind_run, h]

/-! ### the world with one block turned -/

/-- Block b holds these cells. -/
def Blk (w : World) (b : Nat) (T : TypeId) (cs : Array Value) : Prop := w.heap[b]? = some (.cells cs T (0, 0))

def putBlk (w : World) (b : Nat) (T : TypeId) (cs : Array Value) : World := { w with heap := w.heap.setIfInBounds b (.cells cs T (0, 0)) }

theorem Blk.lt {w : World} {b : Nat} {T : TypeId} {cs : Array Value} (h : Blk w b T cs) : b < w.heap.size := (Array.getElem?_eq_some_iff.1 h).1
theorem Blk.cell {w : World} {b : Nat} {T : TypeId} {cs : Array Value} (h : Blk w b T cs) (i : Nat) : w.cell? ⟨b, i, none⟩ = cs[i]? := by
  unfold Blk at h; simp [World.cell?, h]
theorem Blk.frozen {w : World} {b : Nat} {T : TypeId} {cs : Array Value} (h : Blk w b T cs) (i : Nat) : w.frozen? ⟨b, i, none⟩ = false := by
  unfold Blk at h; simp [World.frozen?, h]
theorem Blk.of_same {w w' : World} {b : Nat} {T : TypeId} {cs : Array Value} (h : Blk w b T cs) (hs : w'.heap[b]? = w.heap[b]?) : Blk w' b T cs := hs.trans h
theorem Blk.ext {w w' : World} {b : Nat} {T : TypeId} {cs : Array Value} (h : Blk w b T cs) (hs : Ext w w') : Blk w' b T cs := h.of_same (hs.block b h.lt)
theorem putBlk_blk {w : World} {b : Nat} {T : TypeId} {cs cs' : Array Value} (h : Blk w b T cs) : Blk (putBlk w b T cs') b T cs' := by
  have := h.lt
  simp [Blk, putBlk, this]
theorem putBlk_other {w : World} {b k : Nat} {T : TypeId} {cs' : Array Value} (h : k ≠ b) : (putBlk w b T cs').heap[k]? = w.heap[k]? := by
  simp [putBlk, Array.getElem?_setIfInBounds_ne (Ne.symm h)]
theorem putBlk_size {w : World} {b : Nat} {T : TypeId} {cs' : Array Value} : (putBlk w b T cs').heap.size = w.heap.size := by simp [putBlk]
theorem putBlk_below {w0 w : World} {N b : Nat} {T : TypeId} {cs' : Array Value} (h : Below N w0 w) (hb : N ≤ b) : Below N w0 (putBlk w b T cs') :=
  ⟨h.os, h.tape, h.output, by rw [putBlk_size]; exact h.size, fun k hk => (putBlk_other (by omega)).trans (h.block k hk)⟩

theorem setCell_put {w : World} {b i : Nat} {T : TypeId} {cs : Array Value} {v : Value} (h : Blk w b T cs) : w.setCell ⟨b, i, none⟩ v = putBlk w b T (cs.setIfInBounds i v) := by
  unfold World.setCell putBlk
  congr 1
  apply Array.ext_getElem?
  intro k
  by_cases hk : k = b
  · subst hk
    have hlt := h.lt
    unfold Blk at h
    rw [Array.getElem?_modify]
    simp only [if_true, h, Option.map_some]
    rw [Array.getElem?_setIfInBounds_self]
    simp only [hlt, if_true]
    rfl
  · rw [Array.getElem?_setIfInBounds_ne (Ne.symm hk), Array.getElem?_modify]
    simp [Ne.symm hk]
theorem putBlk_put {w : World} {b : Nat} {T : TypeId} {cs cs' : Array Value} : putBlk (putBlk w b T cs) b T cs' = putBlk w b T cs' := by
  simp [putBlk]
theorem putBlk_self {w : World} {b : Nat} {T : TypeId} {cs : Array Value} (h : Blk w b T cs) : putBlk w b T cs = w := by
  unfold putBlk
  have : w.heap.setIfInBounds b (.cells cs T (0, 0)) = w.heap := by
    apply Array.ext_getElem?
    intro k
    by_cases hk : k = b
    · subst hk
      have hlt := h.lt
      unfold Blk at h
      rw [Array.getElem?_setIfInBounds_self, h]; simp [hlt]
    · rw [Array.getElem?_setIfInBounds_ne (Ne.symm hk)]
  rw [this]

theorem add_off (b o n : Nat) : (⟨b, o, none⟩ : Addr).add n = ⟨b, o + n, none⟩ := by
  unfold Addr.add
  split
  · rename_i h; rw [h, Nat.add_zero]
  · rfl

/-! ### loads and stores -/

theorem run_load {P : Program} {w : World} {a : Addr} {v : Value} (h : w.cell? a = some v) : (load a).run P w = .ok v w := by
  show Sem.run P (.load .plain a .pure) w = _
  simp only [Sem.run, h]

theorem run_loadCellsFrom {P : Program} {w : World} {b o : Nat} : ∀ (n i : Nat) (cs : List Value) (acc : Array Value), cs.length = n → (∀ j v, cs[j]? = some v → w.cell? ⟨b, o + i + j, none⟩ = some v) →
    (loadCellsFrom ⟨b, o, none⟩ i n acc).run P w = .ok (acc ++ cs.toArray) w := by
  intro n
  induction n with
  | zero => intro i cs acc hl _; have : cs = [] := List.length_eq_zero_iff.1 hl; subst this; simp only [loadCellsFrom, Array.append_empty]; rfl
  | succ n ih =>
    intro i cs acc hl h
    cases cs with
    | nil => cases hl
    | cons c cs =>
      unfold loadCellsFrom
      rw [bind_ok (a := c) (w' := w)]
      · rw [ih (i + 1) cs (acc.push c) (by simpa using hl) (fun j v hj => by have := h (j + 1) v (by simpa using hj); rwa [show o + i + (j + 1) = o + (i + 1) + j from by omega] at this)]
        simp
      · refine run_load ?_
        rw [add_off]
        exact h 0 c rfl

theorem run_loadCells {P : Program} {w : World} {b o : Nat} {cs : List Value} (h : ∀ j v, cs[j]? = some v → w.cell? ⟨b, o + j, none⟩ = some v) :
    (loadCells ⟨b, o, none⟩ cs.length).run P w = .ok cs.toArray w := by
  unfold loadCells
  rw [run_loadCellsFrom cs.length 0 cs #[] rfl (fun j v hj => by simpa using h j v hj)]
  simp

def aggT (P : Program) (t : TypeId) : Option Bool := match P.underlying t with | some (.struct _) => some true | some (.array _ _) => some true | some _ => some false | none => none
def sizeT (P : Program) (t : TypeId) : Option Nat := (P.info? t).map (·.size)

theorem run_isAgg {P : Program} {t : TypeId} {b : Bool} (h : aggT P t = some b) (w : World) : (isAgg t).run P w = .ok b w := by
  unfold aggT at h
  unfold isAgg underlying program
  show Sem.run P (Sem.bind (Sem.bind (.program .pure) _) _) w = _
  simp only [Sem.bind, Sem.run]
  cases hu : P.underlying t with
  | none => rw [hu] at h; cases h
  | some d => rw [hu] at h; cases d <;> simp at h <;> subst h <;> rfl

theorem run_sizeOf {P : Program} {t : TypeId} {n : Nat} (h : sizeT P t = some n) (w : World) : (sizeOf t).run P w = .ok n w := by
  unfold sizeT at h
  unfold sizeOf typeInfo program
  show Sem.run P (Sem.bind (Sem.bind (.program .pure) _) _) w = _
  simp only [Sem.bind, Sem.run]
  cases hu : P.info? t with
  | none => rw [hu] at h; cases h
  | some d => rw [hu] at h; simp at h; subst h; rfl

theorem run_loadVar_agg {P : Program} {w : World} {t : TypeId} {b o : Nat} {cs : List Value} (ha : aggT P t = some true) (hs : sizeT P t = some cs.length)
    (h : ∀ j v, cs[j]? = some v → w.cell? ⟨b, o + j, none⟩ = some v) : (loadVar t ⟨b, o, none⟩).run P w = .ok (.agg cs.toArray) w := by
  unfold loadVar
  rw [bind_ok (run_isAgg ha w)]
  simp only [if_true]
  rw [bind_ok (run_sizeOf hs w), bind_ok (run_loadCells h)]
  rfl

theorem run_loadVar_one {P : Program} {w : World} {t : TypeId} {b o : Nat} {v : Value} (ha : aggT P t = some false)
    (h : w.cell? ⟨b, o, none⟩ = some v) : (loadVar t ⟨b, o, none⟩).run P w = .ok v w := by
  unfold loadVar
  rw [bind_ok (run_isAgg ha w)]
  exact run_load h

/-- What a load of type t at place o of these cells gives. -/
def ldv (P : Program) (t : TypeId) (cs : Array Value) (o : Nat) : Option Value :=
  match aggT P t, sizeT P t with
  | some true, some n => if o + n ≤ cs.size then some (.agg ((cs.toList.drop o).take n).toArray) else none
  | some false, _ => cs.toList[o]?
  | _, _ => none

theorem run_loadVar_blk {P : Program} {w : World} {t T : TypeId} {b o : Nat} {cs : Array Value} {v : Value} (hb : Blk w b T cs) (hv : ldv P t cs o = some v) :
    (loadVar t ⟨b, o, none⟩).run P w = .ok v w := by
  unfold ldv at hv
  split at hv
  · rename_i n ha hs
    split at hv
    · rename_i hle
      simp only [Option.some.injEq] at hv
      subst hv
      have hl : ((cs.toList.drop o).take n).length = n := by simp; omega
      refine run_loadVar_agg ha (by rw [hl]; exact hs) (fun j v hj => ?_)
      rw [hb.cell]
      rw [List.getElem?_take] at hj
      split at hj
      · rw [List.getElem?_drop] at hj; simpa using hj
      · cases hj
    · cases hv
  · rename_i ha
    exact run_loadVar_one ha (by rw [hb.cell]; simpa using hv)
  · cases hv

def loadArg (a : Act) (o : Oper) : Option (TypeId × Value) := match o.op with | .load t x => some (t, a.eval x) | _ => none

theorem op_load {P : Program} {a : Act} {o : Oper} {t : TypeId} {b off : Nat} {w : World} {v : Value} (ho : loadArg a o = some (t, .pointer (some ⟨b, off, none⟩)))
    (h : (loadVar t ⟨b, off, none⟩).run P w = .ok v w) : (execOp a.eval o).run P w = .ok (.value v) w := by
  unfold loadArg at ho
  split at ho
  · rename_i t' x hop
    simp only [Option.some.injEq, Prod.mk.injEq] at ho
    obtain ⟨rfl, hx⟩ := ho
    unfold execOp
    rw [hop]
    simp only [hx, Instr.loadAt, Instr.sureAddr]
    show Sem.run P (((pure _ : Sem Addr) >>= fun y => loadVar t' y) >>= _) w = _
    rw [bind_ok (a := v) (w' := w)]
    · rfl
    · exact h
  · cases ho

/-- The cells behind a store of these at place o. -/
def wrt : Array Value → Nat → List Value → Array Value
  | cs, _, [] => cs
  | cs, o, v :: vs => wrt (cs.setIfInBounds o v) (o + 1) vs

theorem wrt_size : ∀ (vs : List Value) (cs : Array Value) (o : Nat), (wrt cs o vs).size = cs.size := by
  intro vs
  induction vs with
  | nil => intro cs o; rfl
  | cons v vs ih => intro cs o; simp [wrt, ih]

theorem run_storeCells {P : Program} {b o : Nat} {T : TypeId} : ∀ (vs : List Value) (i : Nat) (cs : Array Value) (w : World), Blk w b T cs → o + i + vs.length ≤ cs.size → vs.all (·.oneCell') = true →
    (storeCells ⟨b, o, none⟩ vs i).run P w = .ok () (putBlk w b T (wrt cs (o + i) vs)) := by
  intro vs
  induction vs with
  | nil => intro i cs w hb _ _; show Result.ok () w = _; rw [show wrt cs (o + i) [] = cs from rfl, putBlk_self hb]
  | cons v vs ih =>
    intro i cs w hb hl h1
    simp only [List.all_cons, Bool.and_eq_true] at h1
    simp only [List.length_cons] at hl
    unfold storeCells
    rw [bind_ok (a := ()) (w' := putBlk w b T (cs.setIfInBounds (o + i) v))]
    · rw [ih (i + 1) _ _ (putBlk_blk hb) (by simp; omega) h1.2, putBlk_put]
      rfl
    · rw [add_off]
      show Sem.run P (.store .plain ⟨b, o + i, none⟩ v (.pure ())) w = _
      have hc : w.cell? ⟨b, o + i, none⟩ = some cs[o + i] := by rw [hb.cell]; exact Array.getElem?_eq_getElem (by omega)
      have hf := hb.frozen (o + i)
      cases v <;> simp only [Sem.run, hc, hf, Bool.false_eq_true, if_false, setCell_put hb] <;> first | rfl | (simp [Value.oneCell'] at h1)

/-- The cells behind a store of a value of type t at place o of these. -/
def stv (P : Program) (t : TypeId) (cs : Array Value) (o : Nat) (v : Value) : Option (Array Value) :=
  match sizeT P t with
  | some n => if v.cells.size = n ∧ o + n ≤ cs.size ∧ v.cells.toList.all (·.oneCell') = true then some (wrt cs o v.cells.toList) else none
  | none => none

theorem run_storeVar_blk {P : Program} {w : World} {t T : TypeId} {b o : Nat} {cs cs' : Array Value} {v : Value} (hb : Blk w b T cs) (hv : stv P t cs o v = some cs') :
    (storeVar t ⟨b, o, none⟩ v).run P w = .ok () (putBlk w b T cs') := by
  unfold stv at hv
  split at hv
  · rename_i n hs
    split at hv
    · rename_i hle
      simp only [Option.some.injEq] at hv
      subst hv
      unfold storeVar
      rw [bind_ok (run_sizeOf hs w)]
      rw [if_neg (by simp [hle.1])]
      have := run_storeCells (P := P) (b := b) (o := o) v.cells.toList 0 cs w hb (by simp; omega) hle.2.2
      rw [Nat.add_zero] at this
      exact this
    · cases hv
  · cases hv

def storeArg (a : Act) (o : Oper) : Option (TypeId × Value × Value) := match o.op with | .store t x v => some (t, a.eval x, a.eval v) | _ => none

theorem op_store {P : Program} {a : Act} {o : Oper} {t T : TypeId} {b off : Nat} {w : World} {v : Value} {cs cs' : Array Value} (ho : storeArg a o = some (t, .pointer (some ⟨b, off, none⟩), v))
    (hb : Blk w b T cs) (hv : stv P t cs off v = some cs') : (execOp a.eval o).run P w = .ok .skip (putBlk w b T cs') := by
  unfold storeArg at ho
  split at ho
  · rename_i t' x y hop
    simp only [Option.some.injEq, Prod.mk.injEq] at ho
    obtain ⟨rfl, hx, hy⟩ := ho
    unfold execOp
    rw [hop]
    simp only [hx, hy, Instr.storeAt, Instr.sureAddr]
    show Sem.run P (((pure _ : Sem Addr) >>= fun z => storeVar t' z v) >>= _) w = _
    rw [bind_ok (a := ()) (w' := putBlk w b T cs')]
    · rfl
    · exact run_storeVar_blk hb hv
  · cases ho

/-! ### new blocks -/

theorem run_newRow {P : Program} {w : World} (T : TypeId) (cs : Array Value) : (newRow T cs).run P w = .ok ⟨w.heap.size, 0, none⟩ (w.alloc (.cells cs T)) := rfl

theorem alloc_blk (w : World) (T : TypeId) (cs : Array Value) : Blk (w.alloc (.cells cs T)) w.heap.size T cs := by
  show (w.heap.push _)[w.heap.size]? = _
  simp
theorem alloc_ext (w : World) (o : Obj) : Ext w (w.alloc o) := (Below.refl _ _).alloc (Nat.le_refl _) o

def boxArg (a : Act) (o : Oper) : Option (TypeId × Value) := match o.op with | .box t x => some (t, a.eval x) | _ => none
theorem op_box {P : Program} {a : Act} {o : Oper} {t : TypeId} {w : World} {v : Value} (ho : boxArg a o = some (t, v)) :
    (execOp a.eval o).run P w = .ok (.value (.pointer (some ⟨w.heap.size, 0, none⟩))) (w.alloc (.cells v.cells t)) := by
  unfold boxArg at ho
  split at ho
  · rename_i t' x hop
    simp only [Option.some.injEq, Prod.mk.injEq] at ho
    obtain ⟨rfl, hx⟩ := ho
    unfold execOp
    rw [hop]
    simp only [hx]
    rfl
  · cases ho

def zeroT (P : Program) (t : TypeId) : Option Value := (P.info? t).bind (·.zero)
theorem run_zeroValue {P : Program} {t : TypeId} {z : Value} (h : zeroT P t = some z) (w : World) : (zeroValue t).run P w = .ok z w := by
  unfold zeroT at h
  unfold zeroValue typeInfo program
  show Sem.run P (Sem.bind (Sem.bind (.program .pure) _) _) w = _
  simp only [Sem.bind, Sem.run]
  cases hu : P.info? t with
  | none => rw [hu] at h; cases h
  | some d => rw [hu] at h; simp at h; simp only [pure, Sem.bind, h]; rfl

def allocArg (P : Program) (o : Oper) : Option (TypeId × Value) := match o.op with | .alloc t => (zeroT P t).map fun z => (t, z) | _ => none
theorem op_alloc {P : Program} {a : Act} {o : Oper} {t : TypeId} {w : World} {v : Value} (ho : allocArg P o = some (t, v)) :
    (execOp a.eval o).run P w = .ok (.value (.pointer (some ⟨w.heap.size, 0, none⟩))) (w.alloc (.cells v.cells t)) := by
  unfold allocArg at ho
  split at ho
  · rename_i t' hop
    rw [Option.map_eq_some_iff] at ho
    obtain ⟨z, hz, he⟩ := ho
    simp only [Prod.mk.injEq] at he
    obtain ⟨rfl, rfl⟩ := he
    unfold execOp
    rw [hop]
    simp only [Instr.alloc]
    show Sem.run P ((zeroValue t' >>= _) >>= _) w = _
    rw [bind_ok (a := Value.pointer (some ⟨w.heap.size, 0, none⟩)) (w' := w.alloc (.cells z.cells t'))]
    · rfl
    · rw [bind_ok (run_zeroValue hz w)]; rfl
  · cases ho

/-! ### calls -/

def plainFn (P : Program) (f : FuncId) : Bool := match P.funcs[f]? with | some fn => !(fn.name == "runtime.NumGoroutine") && fn.body.isSome | none => false

theorem run_callFunc {P : Program} {f : FuncId} (hp : plainFn P f = true) (args : Array Value) (w : World) : (callFunc f args).run P w = .ok (.enter f args) w := by
  unfold plainFn at hp
  split at hp
  · rename_i fn hf
    simp only [Bool.and_eq_true, Bool.not_eq_true'] at hp
    unfold callFunc program
    show Sem.run P (Sem.bind (.program .pure) _) w = _
    simp only [Sem.bind, Sem.run, hf, hp.1, Bool.false_eq_true, if_false]
    cases hb : fn.body with
    | none => rw [hb] at hp; simp at hp
    | some c => rfl
  · cases hp

/-- The function and the arguments of a call. -/
def callArg (a : Act) (o : Oper) : Option (FuncId × Array Value) :=
  match o.op with
  | .call { callee := .value f, args, .. } => (match a.eval f with | .func (.func g) first captured => some (g, first ++ args.map a.eval ++ captured) | _ => none)
  | _ => none

theorem op_call {P : Program} {a : Act} {o : Oper} {f : FuncId} {args : Array Value} {w : World} (ho : callArg a o = some (f, args)) (hp : plainFn P f = true) :
    (execOp a.eval o).run P w = .ok (.enter f args) w := by
  unfold callArg at ho
  split at ho
  · rename_i f' args' ats hop
    split at ho
    · rename_i g first captured hf
      simp only [Option.some.injEq, Prod.mk.injEq] at ho
      obtain ⟨rfl, rfl⟩ := ho
      unfold execOp
      rw [hop]
      simp only [resolve, hf, Deferred.ofValue]
      show Sem.run P (invoke (.fn (.func g) captured) (first ++ args'.map a.eval)) w = _
      exact run_callFunc hp _ _
    · cases ho
  · cases ho

/-! ### steps of the walk -/
section
variable {P : Program} {B : Exit → Act → World → Prop}

def opOf (σ : List Item × Act) : Oper := match σ.1 with | .inRegion ops (i :: _) :: _ => ops.getD i default | _ => default
def opOk (σ : List Item × Act) : Bool := match σ.1 with | .inRegion ops (i :: _) :: _ => decide (i < ops.size) && Region.wanted (ops.getD i default) (yielded ops σ.2.tmps) | _ => false
def opIdle (σ : List Item × Act) : Bool := match σ.1 with | .inRegion ops (i :: _) :: _ => decide (i < ops.size) && !Region.wanted (ops.getD i default) (yielded ops σ.2.tmps) | _ => false
def nxt (σ : List Item × Act) (v : Value) : List Item × Act := match σ.1 with | .inRegion ops (i :: r) :: k => (.inRegion ops r :: k, σ.2.put (ops.getD i default).dst v) | _ => σ
def fuel : Nat := 400

theorem run_heavy {σ : List Item × Act} {w : World} (hk : opOk σ = true) (h : Heavy P (opOf σ) σ.2 w true B fun v w' => Run P B (adv P fuel (nxt σ v)) w') : Run P B σ w := by
  obtain ⟨t, a⟩ := σ
  unfold opOk at hk
  simp only at hk
  split at hk
  · rename_i ops i r k
    simp only [Bool.and_eq_true, decide_eq_true_eq] at hk
    have ho : ops[i]? = some (ops.getD i default) := by simp [Array.getElem?_eq_getElem hk.1]
    refine run_op ho hk.2 ?_
    simp only [opOf, nxt] at h
    unfold Heavy at h
    split at h
    · rename_i hr; rw [hr]; exact run_adv fuel h
    · rename_i hr; rw [hr]; exact run_adv fuel h
    · rename_i hr; rw [hr]
      refine Calls.mono h fun e w' he => ?_
      cases e with
      | returned v => exact run_adv fuel he
      | panicked c => exact he.2
      | outgrown => exact he.elim
    · rename_i hr; rw [hr]; exact h.2
    · exact h.elim
  · cases hk

theorem heavy_val {o : Oper} {a : Act} {w w' : World} {v : Value} {tl : Bool} {K : Value → World → Prop} (h : (execOp a.eval o).run P w = .ok (.value v) w') (hK : K v w') : Heavy P o a w tl B K := by
  unfold Heavy; rw [h]; exact hK
theorem heavy_skip {o : Oper} {a : Act} {w w' : World} {tl : Bool} {K : Value → World → Prop} (h : (execOp a.eval o).run P w = .ok .skip w') (hK : K undef w') : Heavy P o a w tl B K := by
  unfold Heavy; rw [h]; exact hK
theorem heavy_call {o : Oper} {a : Act} {w : World} {f : FuncId} {args : Array Value} {tl : Bool} {K : Value → World → Prop} {R : Ending → World → Prop} (ho : callArg a o = some (f, args)) (hp : plainFn P f = true)
    (hc : Calls P f args w R) (hK : ∀ e w', R e w' → ∃ v, e = .returned v ∧ K v w') : Heavy P o a w tl B K := by
  unfold Heavy; rw [op_call ho hp]
  refine Calls.mono hc fun e w' he => ?_
  obtain ⟨v, rfl, hk⟩ := hK e w' he
  exact hk
theorem heavy_callP {o : Oper} {a : Act} {w : World} {f : FuncId} {args : Array Value} {K : Value → World → Prop} {R : Ending → World → Prop} (ho : callArg a o = some (f, args)) (hp : plainFn P f = true)
    (hc : Calls P f args w R) (hK : ∀ e w', R e w' → (∃ v, e = .returned v ∧ K v w') ∨ (∃ c, e = .panicked c ∧ B (.panic c) a w')) : Heavy P o a w true B K := by
  unfold Heavy; rw [op_call ho hp]
  refine Calls.mono hc fun e w' he => ?_
  rcases hK e w' he with ⟨v, rfl, hk⟩ | ⟨c, rfl, hk⟩
  · exact hk
  · exact ⟨rfl, hk⟩

theorem run_val {σ : List Item × Act} {w w' : World} {v : Value} (hk : opOk σ = true) (h : (execOp σ.2.eval (opOf σ)).run P w = .ok (.value v) w') (H : Run P B (adv P fuel (nxt σ v)) w') : Run P B σ w :=
  run_heavy hk (heavy_val h H)
theorem run_lit {σ : List Item × Act} {w : World} (v : Value) (hk : opOk σ = true) (h : (execOp σ.2.eval (opOf σ)).run P w = .ok (.value v) w) (H : Run P B (adv P fuel (nxt σ v)) w) : Run P B σ w :=
  run_val hk h H
theorem run_unit {σ : List Item × Act} {w w' : World} (hk : opOk σ = true) (h : (execOp σ.2.eval (opOf σ)).run P w = .ok .skip w') (H : Run P B (adv P fuel (nxt σ undef)) w') : Run P B σ w :=
  run_heavy hk (heavy_skip h H)
theorem run_call {σ : List Item × Act} {w : World} {f : FuncId} {args : Array Value} {R : Ending → World → Prop} (hk : opOk σ = true) (ho : callArg σ.2 (opOf σ) = some (f, args)) (hp : plainFn P f = true)
    (hc : Calls P f args w R) (H : ∀ e w', R e w' → ∃ v, e = .returned v ∧ Run P B (adv P fuel (nxt σ v)) w') : Run P B σ w :=
  run_heavy hk (heavy_call ho hp hc H)

theorem run_idle {σ : List Item × Act} {w : World} (hk : opIdle σ = true) (h : Run P B (adv P fuel (nxt σ undef)) w) : Run P B σ w := by
  obtain ⟨t, a⟩ := σ
  unfold opIdle at hk
  simp only at hk
  split at hk
  · rename_i ops i r k
    simp only [Bool.and_eq_true, decide_eq_true_eq, Bool.not_eq_true'] at hk
    have ho : ops[i]? = some (ops.getD i default) := by simp [Array.getElem?_eq_getElem hk.1]
    exact run_skip ho hk.2 (run_adv fuel h)
  · cases hk

/-! tests -/
def condOp (σ : List Item × Act) : Operand := match σ.1 with | .code (.cond c _ _) :: _ => c | _ => default
def isCond (σ : List Item × Act) : Bool := match σ.1 with | .code (.cond _ _ _) :: _ => true | _ => false
def condT (σ : List Item × Act) : List Item × Act := match σ.1 with | .code (.cond _ x _) :: k => (.code x :: k, σ.2) | _ => σ
def condF (σ : List Item × Act) : List Item × Act := match σ.1 with | .code (.cond _ _ y) :: k => (.code y :: k, σ.2) | _ => σ

theorem run_cond {σ : List Item × Act} {w : World} {t : Bool} (hk : isCond σ = true) (hc : σ.2.eval (condOp σ) = .bool t)
    (ht : t = true → Run P B (adv P fuel (condT σ)) w) (hf : t = false → Run P B (adv P fuel (condF σ)) w) : Run P B σ w := by
  obtain ⟨l, a⟩ := σ
  unfold isCond at hk
  simp only at hk
  split at hk
  · rename_i c x y k
    simp only [condOp, condT, condF] at hc ht hf
    cases t with
    | true => exact run_step (fun b k cs => step_cond hc) (run_adv fuel (ht rfl))
    | false => exact run_step (fun b k cs => step_cond hc) (run_adv fuel (hf rfl))
  · cases hk

/-- A yes or no that a later operation asks. -/
theorem run_yes {σ : List Item × Act} {w : World} (p : Prop) [Decidable p] (hk : opOk σ = true) (h : (execOp σ.2.eval (opOf σ)).run P w = .ok (.value (.bool (decide p))) w) (hp : p) (H : Run P B (adv P fuel (nxt σ (.bool true))) w) : Run P B σ w := by
  rw [decide_eq_true hp] at h; exact run_val hk h H
theorem run_no {σ : List Item × Act} {w : World} (p : Prop) [Decidable p] (hk : opOk σ = true) (h : (execOp σ.2.eval (opOf σ)).run P w = .ok (.value (.bool (decide p))) w) (hp : ¬ p) (H : Run P B (adv P fuel (nxt σ (.bool false))) w) : Run P B σ w := by
  rw [decide_eq_false hp] at h; exact run_val hk h H
theorem run_ask {σ : List Item × Act} {w : World} (p : Prop) [Decidable p] (hk : opOk σ = true) (h : (execOp σ.2.eval (opOf σ)).run P w = .ok (.value (.bool (decide p))) w)
    (H : p → Run P B (adv P fuel (nxt σ (.bool true))) w) (H' : ¬ p → Run P B (adv P fuel (nxt σ (.bool false))) w) : Run P B σ w := by
  by_cases hp : p
  · exact run_yes p hk h hp (H hp)
  · exact run_no p hk h hp (H' hp)

theorem run_if {σ : List Item × Act} {w : World} {p : Prop} [Decidable p] (hk : isCond σ = true) (hc : σ.2.eval (condOp σ) = .bool (decide p))
    (ht : p → Run P B (adv P fuel (condT σ)) w) (hf : ¬ p → Run P B (adv P fuel (condF σ)) w) : Run P B σ w :=
  run_cond hk hc (fun h => ht (of_decide_eq_true h)) (fun h => hf (of_decide_eq_false h))

/-! loops -/
def loopBody (σ : List Item × Act) : Code := match σ.1 with | .code (.loop c) :: _ => c | _ => .skip
def loopRest (σ : List Item × Act) : List Item := match σ.1 with | .code (.loop _) :: k => k | _ => []
def isLoop (σ : List Item × Act) : Bool := match σ.1 with | .code (.loop _) :: _ => true | _ => false

theorem run_loop {σ : List Item × Act} {w : World} (I : Nat → Act → World → Prop) (n : Nat) (hk : isLoop σ = true) (h0 : I n σ.2 w)
    (round : ∀ n a w, I n a w → (∀ m a' w', m < n → I m a' w' → Run P B (.inLoop (loopBody σ) :: loopRest σ, a') w') → Run P B (adv P fuel (.code (loopBody σ) :: .inLoop (loopBody σ) :: loopRest σ, a)) w) : Run P B σ w := by
  obtain ⟨l, a⟩ := σ
  unfold isLoop at hk
  simp only at hk
  split at hk
  · rename_i c k
    simp only [loopBody, loopRest] at round
    have key : ∀ n a w, I n a w → Run P B (.code c :: .inLoop c :: k, a) w := by
      intro n
      induction n using Nat.strongRecOn with
      | _ n ih =>
        intro a w hI
        exact run_adv fuel (round n a w hI fun m a' w' hm hI' => run_step (fun b k cs => step_inLoop) (ih m hm a' w' hI'))
    exact run_step (fun b k cs => step_loop) (key n a w h0)
  · cases hk

/-- The walk stands where it is said to stand. -/
theorem run_at {σ : List Item × Act} {w : World} {t : List Item} (ht : σ.1 = t) (h : Run P B (t, σ.2) w) : Run P B σ w := by
  obtain ⟨l, a⟩ := σ
  simp only at ht
  subst ht
  exact h

/-! the function's end -/
def isEnd (σ : List Item × Act) : Bool := match σ.1 with | [] => true | .code .ret :: _ => true | _ => false
theorem run_end {σ : List Item × Act} {w : World} (hk : isEnd σ = true) (h : B .ret σ.2 w) (h' : B .normal σ.2 w) : Run P B σ w := by
  obtain ⟨l, a⟩ := σ
  unfold isEnd at hk
  simp only at hk
  split at hk
  · exact run_nil h'
  · exact fun b k cs => ⟨.ret, a, w, h, _, .one step_ret⟩
  · cases hk

/-- The function returns v. -/
theorem run_ret {fn : Func} {R : Ending → World → Prop} {σ : List Item × Act} {w : World} {v : Value} (hk : isEnd σ = true) (hd : σ.2.defers = []) (hr : (results fn σ.2.tmps).run P w = .ok v w)
    (h : R (.returned v) w) : Run P (bodyPost P fn R) σ w :=
  run_end hk ⟨hd, v, hr, h⟩ ⟨hd, v, hr, h⟩

theorem calls_run {f : FuncId} {fn : Func} {args : Array Value} {w : World} {R : Ending → World → Prop} (hf : P.funcs[f]? = some fn) (hb : fn.body.isSome = true)
    (h : Run P (bodyPost P fn R) (adv P fuel ([.code (fn.body.getD .skip)], { tmps := args ++ Array.replicate (fn.ntmps - args.size) undef, defers := [] })) w) : Calls P f args w R := by
  cases hc : fn.body with
  | none => rw [hc] at hb; cases hb
  | some c =>
    rw [hc] at h
    exact calls_of_wp hf hc (wp_of_run (run_adv fuel h))

/-! regions that draw -/
def isDraw (P : Program) (σ : List Item × Act) : Bool := match σ.1 with | .code (.region _ ops true) :: _ => chk P ops | _ => false
def intoDraw (σ : List Item × Act) : List Item × Act := match σ.1 with | .code (.region _ ops true) :: k => (.inRegion ops (List.range ops.size) :: k, σ.2) | _ => σ
def RobC (P : Program) (B : Exit → Act → World → Prop) (H : Nat → World) (σ : List Item × Act) (w : World) : Prop :=
  match σ.1 with | .inRegion ops l :: k => Rob P B ops k l H σ.2 w | _ => False

theorem run_wp {c : Code} {k : List Item} {a : Act} {w : World} (h : c.wp P (After P B k) a w) : Run P B (.code c :: k, a) w := by
  intro b k2 cs
  obtain ⟨e, a', w', hq, harr⟩ := h b (k ++ k2) cs
  cases e with
  | normal =>
    obtain ⟨e2, a2, w2, hq2, harr2⟩ := hq b k2 cs
    exact ⟨e2, a2, w2, hq2, .of_steps harr harr2⟩
  | panic c => exact ⟨.panic c, a', w', hq, harr⟩
  | exit id => exact hq.elim
  | goto l => exact hq.elim
  | ret => exact hq.elim
  | outgrown => exact hq.elim

/-- What is plain, in a region that draws. -/
def advD (P : Program) : Nat → List Item × Act → List Item × Act
  | 0, σ => σ
  | n + 1, σ =>
    match σ.1 with
    | .inRegion ops (i :: r) :: k =>
      if (!Region.wanted (ops.getD i default) (yielded ops σ.2.tmps) || (autoOp P (ops.getD i default).op && !asks ops i)) && lightAt P ops i then
        match calmStep P ops i σ.2 with
        | some a' => advD P n (.inRegion ops r :: k, a')
        | none => σ
      else σ
    | _ => σ

theorem rob_adv {H : Nat → World} (n : Nat) : ∀ {σ : List Item × Act} {w : World}, RobC P B H (advD P n σ) w → RobC P B H σ w := by
  induction n with
  | zero => intro σ w h; exact h
  | succ n ih =>
    intro σ w h
    unfold advD at h
    split at h
    · rename_i ops i r k he
      obtain ⟨t, a⟩ := σ
      simp only at he
      subst he
      split at h
      · rename_i hc
        simp only [Bool.and_eq_true] at hc
        split at h
        · rename_i a' ha
          have h' := ih h
          show Rob P B ops k (i :: r) H a w
          have h2 : Rob P B ops k r H a' w := h'
          unfold calmStep at ha
          split at ha
          · cases ha
          · rename_i o ho
            have hoo : ops.getD i default = o := by simp [ho]
            simp only [Rob, hoo, hc.2, if_true]
            split at ha
            · rename_i hw
              rw [if_pos hw]
              split at ha
              · rename_i v hv
                simp only [Option.some.injEq] at ha
                exact ⟨v, fun w' _ => calm_run _ hv w', by rw [ha]; exact h2⟩
              · cases ha
            · rename_i hw
              rw [if_neg hw]
              simp only [Option.some.injEq] at ha
              rw [ha]; exact h2
        · exact h
      · exact h
    · exact h

theorem run_draw {σ : List Item × Act} {w : World} (hm : P.follows .mixedOrders = true) (hk : isDraw P σ = true) (h : ∀ w1, Ext w w1 → RobC P B (fun _ => w1) (advD P fuel (intoDraw σ)) w1) : Run P B σ w := by
  obtain ⟨t, a⟩ := σ
  unfold isDraw at hk
  simp only at hk
  split at hk
  · rename_i id ops k
    refine run_wp (wp_region_any hm ?_)
    have h1 := rob_adv fuel (h w.drew (Ext.drew w))
    have hall : todoOf ops.size (Array.replicate ops.size false) = List.range ops.size := by
      unfold todoOf
      rw [List.filter_eq_self]
      intro i hi
      have := List.mem_range.1 hi
      simp [this]
    refine rob_any (P := P) (B := B) (k := k) hk ops.size (Array.replicate ops.size false) (fun _ => w.drew) a w.drew (by simp) (by rw [hall]; simp) ?_ (fun i hi _ => .inr (Ext.refl _)) (by rw [hall]; exact h1)
    intro j hj
    exfalso
    rcases Nat.lt_or_ge j ops.size with h2 | h2
    · simp [h2] at hj
    · simp [Array.getElem?_eq_none (xs := Array.replicate ops.size false) (i := j) (by simpa using h2)] at hj
  · cases hk

def robLight (P : Program) (σ : List Item × Act) : Bool := match σ.1 with | .inRegion ops (i :: _) :: _ => lightAt P ops i && Region.wanted (ops.getD i default) (yielded ops σ.2.tmps) | _ => false
def robLightP (P : Program) (σ : List Item × Act) : Bool := robLight P σ
def robNP (σ : List Item × Act) : Bool := match σ.1 with | .inRegion ops (i :: _) :: _ => !pureAt ops i | _ => false
def softOf (σ : List Item × Act) : Bool := match σ.1 with | .inRegion ops (i :: _) :: _ => softAt ops i | _ => false
def robHeavy (P : Program) (σ : List Item × Act) : Bool := match σ.1 with | .inRegion ops (i :: _) :: _ => !lightAt P ops i && Region.wanted (ops.getD i default) (yielded ops σ.2.tmps) | _ => false
def robIdle (P : Program) (σ : List Item × Act) : Bool := match σ.1 with | .inRegion ops (i :: _) :: _ => lightAt P ops i && !Region.wanted (ops.getD i default) (yielded ops σ.2.tmps) | _ => false
def robIdleH (P : Program) (σ : List Item × Act) : Bool := match σ.1 with | .inRegion ops (i :: _) :: _ => !lightAt P ops i && !Region.wanted (ops.getD i default) (yielded ops σ.2.tmps) | _ => false
def loOf (P : Program) (σ : List Item × Act) : Nat := match σ.1 with | .inRegion ops (i :: _) :: _ => lo P ops i | _ => 0
def pcOf (σ : List Item × Act) : Nat := match σ.1 with | .inRegion _ (i :: _) :: _ => i | _ => 0
def barOf (σ : List Item × Act) : Bool := match σ.1 with | .inRegion ops (i :: _) :: _ => barAt ops i | _ => false
def robDone (σ : List Item × Act) : Bool := match σ.1 with | .inRegion _ [] :: _ => true | _ => false
def robRest (σ : List Item × Act) : List Item × Act := match σ.1 with | .inRegion _ [] :: k => (k, σ.2) | _ => σ

theorem rob_pure {H : Nat → World} {σ : List Item × Act} {w : World} (v : Value) (hk : robLight P σ = true) (hv : ∀ w', (execOp σ.2.eval (opOf σ)).run P w' = .ok (.value v) w')
    (h : RobC P B H (advD P fuel (nxt σ v)) w) : RobC P B H σ w := by
  obtain ⟨t, a⟩ := σ
  unfold robLight at hk
  simp only at hk
  split at hk
  · rename_i ops i r k
    simp only [Bool.and_eq_true] at hk
    have h' := rob_adv fuel h
    show Rob P B ops k (i :: r) H a w
    simp only [Rob, hk.1, hk.2, if_true]
    exact ⟨v, fun w' _ => hv w', h'⟩
  · cases hk

theorem rob_lightN {H : Nat → World} {σ : List Item × Act} {w : World} (v : Value) (W : World) (hk : robLight P σ = true) (hn : robNP σ = true) (hW : H (loOf P σ) = W) (hv : ∀ w', Ext W w' → (execOp σ.2.eval (opOf σ)).run P w' = .ok (.value v) w')
    (h : RobC P B H (advD P fuel (nxt σ v)) w) : RobC P B H σ w := by
  obtain ⟨t, a⟩ := σ
  unfold robLight at hk
  simp only at hk
  split at hk
  · rename_i ops i r k
    simp only [Bool.and_eq_true] at hk
    simp only [loOf] at hW
    simp only [robNP, Bool.not_eq_true'] at hn
    subst hW
    have h' := rob_adv fuel h
    show Rob P B ops k (i :: r) H a w
    simp only [Rob, hk.1, hk.2, if_true]
    exact ⟨v, fun w' hw => hv w' (hw.resolve_left (by rw [hn]; simp)), h'⟩
  · cases hk

def robLightN (P : Program) (σ : List Item × Act) : Bool := robLight P σ && robNP σ
theorem rob_light {H : Nat → World} {σ : List Item × Act} {w : World} (v : Value) (W : World) (hk : robLightN P σ = true) (hW : H (loOf P σ) = W) (hv : ∀ w', Ext W w' → (execOp σ.2.eval (opOf σ)).run P w' = .ok (.value v) w')
    (h : RobC P B H (advD P fuel (nxt σ v)) w) : RobC P B H σ w := by
  unfold robLightN at hk
  rw [Bool.and_eq_true] at hk
  exact rob_lightN v W hk.1 hk.2 hW hv h

theorem rob_ask {H : Nat → World} {σ : List Item × Act} {w : World} (p : Prop) [Decidable p] (hk : robLight P σ = true) (h : ∀ w', (execOp σ.2.eval (opOf σ)).run P w' = .ok (.value (.bool (decide p))) w')
    (H1 : p → RobC P B H (advD P fuel (nxt σ (.bool true))) w) (H2 : ¬ p → RobC P B H (advD P fuel (nxt σ (.bool false))) w) : RobC P B H σ w := by
  by_cases hp : p
  · rw [decide_eq_true hp] at h; exact rob_pure _ hk h (H1 hp)
  · rw [decide_eq_false hp] at h; exact rob_pure _ hk h (H2 hp)

theorem rob_heavy {H : Nat → World} {σ : List Item × Act} {w : World} (hk : robHeavy P σ = true)
    (h : Heavy P (opOf σ) σ.2 w (barOf σ) B fun v w' => (softOf σ = true ∨ Ext w w') ∧ RobC P B (upd H (pcOf σ + 1) w') (advD P fuel (nxt σ v)) w') : RobC P B H σ w := by
  obtain ⟨t, a⟩ := σ
  unfold robHeavy at hk
  simp only at hk
  split at hk
  · rename_i ops i r k
    simp only [Bool.and_eq_true, Bool.not_eq_true'] at hk
    show Rob P B ops k (i :: r) H a w
    simp only [Rob, hk.1, hk.2, if_true, Bool.false_eq_true, if_false]
    exact Heavy.mono (fun v w' hh => ⟨hh.1, rob_adv (σ := (.inRegion ops r :: k, a.put (ops.getD i default).dst v)) fuel hh.2⟩) h
  · cases hk

theorem rob_idle {H : Nat → World} {σ : List Item × Act} {w : World} (hk : robIdle P σ = true) (h : RobC P B H (advD P fuel (nxt σ undef)) w) : RobC P B H σ w := by
  obtain ⟨t, a⟩ := σ
  unfold robIdle at hk
  simp only at hk
  split at hk
  · rename_i ops i r k
    simp only [Bool.and_eq_true, Bool.not_eq_true'] at hk
    have h' := rob_adv fuel h
    show Rob P B ops k (i :: r) H a w
    simp only [Rob, hk.1, hk.2, if_true, Bool.false_eq_true, if_false]
    exact h'
  · cases hk

theorem rob_idleH {H : Nat → World} {σ : List Item × Act} {w : World} (hk : robIdleH P σ = true) (h : RobC P B (upd H (pcOf σ + 1) w) (advD P fuel (nxt σ undef)) w) : RobC P B H σ w := by
  obtain ⟨t, a⟩ := σ
  unfold robIdleH at hk
  simp only at hk
  split at hk
  · rename_i ops i r k
    simp only [Bool.and_eq_true, Bool.not_eq_true'] at hk
    have h' := rob_adv fuel h
    show Rob P B ops k (i :: r) H a w
    simp only [Rob, hk.1, hk.2, Bool.false_eq_true, if_false]
    exact h'
  · cases hk

theorem rob_done {H : Nat → World} {σ : List Item × Act} {w : World} (hk : robDone σ = true) (h : Run P B (adv P fuel (robRest σ)) w) : RobC P B H σ w := by
  obtain ⟨t, a⟩ := σ
  unfold robDone at hk
  simp only at hk
  split at hk
  · rename_i ops k
    exact run_adv fuel h
  · cases hk

theorem rob_val {H : Nat → World} {σ : List Item × Act} {w w' : World} {v : Value} (hk : robHeavy P σ = true) (h : (execOp σ.2.eval (opOf σ)).run P w = .ok (.value v) w') (hE : Ext w w') (H' : RobC P B (upd H (pcOf σ + 1) w') (advD P fuel (nxt σ v)) w') : RobC P B H σ w :=
  rob_heavy hk (heavy_val h ⟨.inr hE, H'⟩)
theorem rob_bar {H : Nat → World} {σ : List Item × Act} {w w' : World} (hk : robHeavy P σ = true) (hb : softOf σ = true) (h : (execOp σ.2.eval (opOf σ)).run P w = .ok .skip w') (H' : RobC P B (upd H (pcOf σ + 1) w') (advD P fuel (nxt σ undef)) w') : RobC P B H σ w :=
  rob_heavy hk (heavy_skip h ⟨.inl hb, H'⟩)
theorem rob_barv {H : Nat → World} {σ : List Item × Act} {w w' : World} {v : Value} (hk : robHeavy P σ = true) (hb : softOf σ = true) (h : (execOp σ.2.eval (opOf σ)).run P w = .ok (.value v) w') (H' : RobC P B (upd H (pcOf σ + 1) w') (advD P fuel (nxt σ v)) w') : RobC P B H σ w :=
  rob_heavy hk (heavy_val h ⟨.inl hb, H'⟩)
theorem rob_call {H : Nat → World} {σ : List Item × Act} {w : World} {f : FuncId} {args : Array Value} {R : Ending → World → Prop} (hk : robHeavy P σ = true) (ho : callArg σ.2 (opOf σ) = some (f, args)) (hp : plainFn P f = true)
    (hc : Calls P f args w R) (H' : ∀ e w', R e w' → ∃ v, e = .returned v ∧ (softOf σ = true ∨ Ext w w') ∧ RobC P B (upd H (pcOf σ + 1) w') (advD P fuel (nxt σ v)) w') : RobC P B H σ w :=
  rob_heavy hk (heavy_call ho hp hc H')

end

/-! ### frames by their live slots -/
/-- A frame of N slots of which these are known. -/
def env (N : Nat) (u : Nat → Value) (l : List (Nat × Value)) : Act := { tmps := (Array.range N).map fun i => (l.lookup i).getD (u i), defers := [] }

theorem env_intro {a : Act} {N : Nat} {l : List (Nat × Value)} (hs : a.tmps.size = N) (hd : a.defers = []) (hl : (l.map fun p => a.tmps.getD p.1 undef) = l.map (·.2)) :
    ∃ u, a = env N u l := by
  refine ⟨fun i => a.tmps.getD i undef, ?_⟩
  obtain ⟨tmps, defers⟩ := a
  simp only at hs hd hl
  subst hd
  unfold env
  congr 1
  apply Array.ext
  · simp [hs]
  · intro i h1 h2
    simp only [Array.getElem_map, Array.getElem_range]
    cases hk : l.lookup i with
    | none => simp [h1]
    | some v =>
      simp only [Option.getD_some]
      have key : ∀ (l : List (Nat × Value)), (l.map fun p => tmps.getD p.1 undef) = l.map (·.2) → l.lookup i = some v → tmps.getD i undef = v := by
        intro l
        induction l with
        | nil => intro _ h; cases h
        | cons p l ih =>
          intro hl h
          simp only [List.map_cons, List.cons.injEq] at hl
          rw [List.lookup_cons] at h
          split at h
          · rename_i hp
            have : i = p.1 := by simpa using hp
            simp only [Option.some.injEq] at h
            rw [this, hl.1, h]
          · exact ih hl.2 h
      have := key l hl hk
      simpa [h1] using this

end Go.PM
