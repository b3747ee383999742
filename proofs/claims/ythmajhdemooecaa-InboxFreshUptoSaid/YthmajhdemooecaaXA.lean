/- Deferred calls, recover, and regions whose orders are gone through one by one. -/
import Derived.Test.YthmajhdemooecaaX9
import Derived.Recover
namespace Go.PM
set_option linter.unusedVariables false
set_option linter.unusedSimpArgs false
set_option linter.unnecessarySimpa false
open Go.RowKit

section
variable {P : Program} {B : Exit → Act → World → Prop}

def nxtD (σ : List Item × Act) (d : Deferred) : List Item × Act :=
  match σ.1 with
  | .inRegion ops (i :: r) :: k => (.inRegion ops r :: k, ({ σ.2 with defers := d :: σ.2.defers } : Act).put (ops.getD i default).dst undef)
  | _ => σ

theorem run_defer {σ : List Item × Act} {w : World} (d : Deferred) (hk : opOk σ = true) (h : (execOp σ.2.eval (opOf σ)).run P w = .ok (.defer d) w) (H : Run P B (adv P fuel (nxtD σ d)) w) : Run P B σ w := by
  obtain ⟨t, a⟩ := σ
  unfold opOk at hk
  simp only at hk
  split at hk
  · rename_i ops i r k
    simp only [Bool.and_eq_true, decide_eq_true_eq] at hk
    have ho : ops[i]? = some (ops.getD i default) := by simp [Array.getElem?_eq_getElem hk.1]
    refine run_op ho hk.2 ?_
    have h' : (execOp a.eval (ops.getD i default)).run P w = .ok (.defer d) w := h
    rw [h']
    exact run_adv fuel H
  · cases hk

theorem wpOpsS_recover {ops : Array Oper} {i : Nat} {rest : List Nat} {o : Oper} {Q : Exit → Act → List Frame → World → Prop} {a : Act} {cs : List Frame} {w : World} (ho : ops[i]? = some o) (hw : Region.wanted o (yielded ops a.tmps) = true)
    (hr : (execOp a.eval o).run P w = .ok .recover w)
    (h : ∀ v cs', (recoverD cs = some (v, cs') ∨ (recoverD cs = none ∧ v = .nilIface ∧ cs' = cs)) → wpOpsS P ops Q rest (a.put o.dst v) cs' w) : wpOpsS P ops Q (i :: rest) a cs w := by
  unfold wpOpsS
  rw [ho]
  simp only
  rw [if_pos hw, hr]
  simp only
  cases hc : recoverD cs with
  | none => exact h _ _ (.inr ⟨hc, rfl, rfl⟩)
  | some x => obtain ⟨v, cs'⟩ := x; exact h v cs' (.inl hc)

theorem wpOpsS_calm {ops : Array Oper} {i : Nat} {rest : List Nat} {Q : Exit → Act → List Frame → World → Prop} {a a' : Act} {cs : List Frame} {w : World} (hc : calmStep P ops i a = some a') (h : wpOpsS P ops Q rest a' cs w) : wpOpsS P ops Q (i :: rest) a cs w := by
  unfold wpOpsS
  unfold calmStep at hc
  split at hc
  · cases hc
  · rename_i o ho
    rw [ho]
    simp only
    split at hc
    · rename_i hw
      rw [if_pos hw]
      split at hc
      · rename_i v hv
        simp only [Option.some.injEq] at hc
        rw [calm_run _ hv w]
        simp only [Oper.upon]
        rw [hc]; exact h
      · cases hc
    · rename_i hw
      rw [if_neg hw]
      simp only [Option.some.injEq] at hc
      rw [hc]; exact h

/-! orders one by one -/
theorem any_val {ops : Array Oper} {Q : Exit → Act → World → Prop} {K : Act → World → Prop} {i : Nat} {a : Act} {w w' : World} {v : Value} (ho : ops[i]? = some (ops.getD i default)) (hw : Region.wanted (ops.getD i default) (yielded ops a.tmps) = true)
    (h : (execOp a.eval (ops.getD i default)).run P w = .ok (.value v) w') (H : K (a.put (ops.getD i default).dst v) w') : wpOp P ops Q i K a w := by
  unfold wpOp
  rw [ho]
  simp only
  rw [if_pos hw]
  refine .inl ?_
  unfold Oper.wp
  rw [h]
  exact H
theorem any_lit {ops : Array Oper} {Q : Exit → Act → World → Prop} {K : Act → World → Prop} {i : Nat} {a : Act} {w : World} (v : Value) (ho : ops[i]? = some (ops.getD i default)) (hw : Region.wanted (ops.getD i default) (yielded ops a.tmps) = true)
    (h : (execOp a.eval (ops.getD i default)).run P w = .ok (.value v) w) (H : K (a.put (ops.getD i default).dst v) w) : wpOp P ops Q i K a w := any_val ho hw h H
theorem any_unit {ops : Array Oper} {Q : Exit → Act → World → Prop} {K : Act → World → Prop} {i : Nat} {a : Act} {w w' : World} (ho : ops[i]? = some (ops.getD i default)) (hw : Region.wanted (ops.getD i default) (yielded ops a.tmps) = true)
    (h : (execOp a.eval (ops.getD i default)).run P w = .ok .skip w') (H : K (a.put (ops.getD i default).dst undef) w') : wpOp P ops Q i K a w := by
  unfold wpOp
  rw [ho]
  simp only
  rw [if_pos hw]
  refine .inl ?_
  unfold Oper.wp
  rw [h]
  exact H

def opsS (σ : List Item × Act) : Array Oper := match σ.1 with | .code (.region _ ops true) :: _ => ops | _ => #[]
def restS (σ : List Item × Act) : List Item := match σ.1 with | .code (.region _ _ true) :: k => k | _ => []
def isAnyR (σ : List Item × Act) : Bool := match σ.1 with | .code (.region _ _ true) :: _ => true | _ => false
theorem run_any {σ : List Item × Act} {w : World} (hm : P.follows .mixedOrders = true) (hk : isAnyR σ = true)
    (h : ∀ w1, Ext w w1 → wpAny P .any (opsS σ) (After P B (restS σ)) (opsS σ).size (Array.replicate (opsS σ).size false) σ.2 w1) : Run P B σ w := by
  obtain ⟨t, a⟩ := σ
  unfold isAnyR at hk
  simp only at hk
  split at hk
  · exact run_wp (wp_region_any hm (h w.drew (Ext.drew w)))
  · cases hk

theorem any_step {ops : Array Oper} {Q : Exit → Act → World → Prop} {rs : List Nat} {fuel fuel' : Nat} {listed : Array Bool} {a : Act} {w : World} (hf : fuel = fuel' + 1) (hr : Region.ready .any ops listed = rs) (hne : rs ≠ [])
    (h : ∀ i ∈ rs, wpOp P ops Q i (wpAny P .any ops Q fuel' (listed.setIfInBounds i true)) a w) : wpAny P .any ops Q fuel listed a w := by
  subst hf
  exact wpAny_all hr hne h
theorem any_one {ops : Array Oper} {Q : Exit → Act → World → Prop} {i : Nat} {fuel fuel' : Nat} {listed : Array Bool} {a : Act} {w : World} (hf : fuel = fuel' + 1) (hr : Region.ready .any ops listed = [i])
    (h : wpOp P ops Q i (wpAny P .any ops Q fuel' (listed.setIfInBounds i true)) a w) : wpAny P .any ops Q fuel listed a w :=
  any_step hf hr (by simp) fun j hj => by
    rw [List.mem_singleton] at hj
    subst hj
    exact h
theorem any_two {ops : Array Oper} {Q : Exit → Act → World → Prop} {i j : Nat} {fuel fuel' : Nat} {listed : Array Bool} {a : Act} {w : World} (hf : fuel = fuel' + 1) (hr : Region.ready .any ops listed = [i, j])
    (h : wpOp P ops Q i (wpAny P .any ops Q fuel' (listed.setIfInBounds i true)) a w) (h' : wpOp P ops Q j (wpAny P .any ops Q fuel' (listed.setIfInBounds j true)) a w) : wpAny P .any ops Q fuel listed a w :=
  any_step hf hr (by simp) fun x hx => by
    rcases List.mem_cons.1 hx with rfl | hx
    · exact h
    · rw [List.mem_singleton] at hx
      subst hx
      exact h'
end

theorem op_slice' {P : Program} {a : Act} {o : Oper} {t e : TypeId} {sz n c : Nat} {A A' : Option Addr} {lo hi : Option Value} {l h n' m' : Nat} {w : World} (ho : sliceArg a o = some (t, .slice A n c, lo, hi, none))
    (hu : P.underlying t = some (.slice e)) (hs : sizeT P e = some sz)
    (hlo : (lo = none ∧ l = 0) ∨ ∃ k i, lo = some (.int k i) ∧ i = (l : Int)) (hhi : (hi = none ∧ h = n) ∨ ∃ k i, hi = some (.int k i) ∧ i = (h : Int)) (h1 : l ≤ h) (h2 : h ≤ c)
    (hA : A' = if c = l then A else A.map (·.add (l * sz))) (hn : h - l = n') (hm : c - l = m') :
    (execOp a.eval o).run P w = .ok (.value (.slice A' n' m')) w := by
  subst hA hn hm
  exact op_slice ho hu hs hlo hhi h1 h2

/-! a row that was opened: its cells are known -/
section
variable {α : Type}
def Ck.rowK (d : Ty α) (b o : Nat) (xs : List α) (css : Nat → List Value) : Ck where
  h := fun w S => (0 < xs.length → S b ∧ b < w.heap.size) ∧ ∀ j x, xs[j]? = some x → d.K w S x (css j) ∧ ∀ i v, (css j)[i]? = some v → w.cell? ⟨b, o + j * d.sz + i, none⟩ = some v
  loc := fun {w w' S} ⟨h1, h3⟩ hk => by
    refine ⟨fun hp => ?_, fun j x hj => ?_⟩
    · obtain ⟨g1, g2⟩ := h1 hp
      have hb := hk b g1 g2
      refine ⟨g1, ?_⟩
      rcases Nat.lt_or_ge b w'.heap.size with h | h
      · exact h
      · rw [Array.getElem?_eq_none h, Array.getElem?_eq_getElem g2] at hb
        cases hb
    · obtain ⟨g1, g2⟩ := h1 (by have := (List.getElem?_eq_some_iff.1 hj).1; omega)
      exact ⟨d.loc (h3 j x hj).1 hk, fun i v hi => by rw [cell_same (hk b g1 g2)]; exact (h3 j x hj).2 i v hi⟩
  trim := fun ⟨h1, h3⟩ => ⟨fun hp => ⟨⟨(h1 hp).1, (h1 hp).2⟩, (h1 hp).2⟩, fun j x hj => ⟨d.trim (h3 j x hj).1, (h3 j x hj).2⟩⟩

theorem list_eq_of_cells {l l' : List Value} {f : Nat → Option Value} (hl : l.length = l'.length) (h : ∀ i v, l[i]? = some v → f i = some v) (h' : ∀ i v, l'[i]? = some v → f i = some v) : l = l' := by
  apply List.ext_getElem hl
  intro i h1 h2
  have e1 := h i _ (List.getElem?_eq_getElem h1)
  have e2 := h' i _ (List.getElem?_eq_getElem h2)
  rw [e1] at e2
  exact Option.some.inj e2

/-- A slice's row, opened. -/
theorem Sl.known {d : Ty α} {w : World} {S : Nat → Prop} {xs : List α} {A : Option Addr} {n c : Nat} (hx : Sl d w S xs (.slice A n c)) (hp : 0 < xs.length) :
    ∃ b o css, A = some ⟨b, o, none⟩ ∧ ∀ S', Sl d w S' xs (.slice A n c) → (Ck.rowK d b o xs css).h w S' := by
  obtain ⟨A', c', e, g2, g3, g4, g5⟩ := hx
  injection e with e1 e2 e3
  subst e1 e3
  obtain ⟨b, o, rfl, g6, g7, g8⟩ := g5 hp
  have hch : ∀ j, ∃ cs : List Value, ∀ x, xs[j]? = some x → d.K w S x cs ∧ ∀ i v, cs[i]? = some v → w.cell? ⟨b, o + j * d.sz + i, none⟩ = some v := by
    intro j
    cases hj : xs[j]? with
    | none => exact ⟨[], fun x hx => by cases hx⟩
    | some x =>
      obtain ⟨cs, h1, h2⟩ := g8 j x hj
      exact ⟨cs, fun y hy => by injection hy with hy; subst hy; exact ⟨h1, h2⟩⟩
  refine ⟨b, o, fun j => (hch j).choose, rfl, fun S' hS' => ?_⟩
  obtain ⟨A2, c2, e', k2, k3, k4, k5⟩ := hS'
  injection e' with e1' _ _
  subst e1'
  obtain ⟨b2, o2, eb, k6, k7, k8⟩ := k5 hp
  injection eb with eb
  injection eb with eb1 eb2 _
  subst eb1 eb2
  refine ⟨fun _ => ⟨k6, k7⟩, fun j x hj => ?_⟩
  have hs := (hch j).choose_spec x hj
  obtain ⟨cs', m1, m2⟩ := k8 j x hj
  have : cs' = (hch j).choose := list_eq_of_cells (by rw [d.len m1, d.len hs.1]) m2 hs.2
  subst this
  exact ⟨m1, m2⟩

theorem HS.rowK {w0 w : World} {L : List Ck} (h : HS w0 w L) (n : Nat) {d : Ty α} {b o : Nat} {xs : List α} {css : Nat → List Value} (hn : L[n]? = some (Ck.rowK d b o xs css)) {j : Nat} {x : α} (hj : xs[j]? = some x) :
    d.K w Any x (css j) ∧ ∀ i v, (css j)[i]? = some v → w.cell? ⟨b, o + j * d.sz + i, none⟩ = some v := by
  obtain ⟨S, h1, -⟩ := h.nth n hn
  exact ⟨d.any (h1.2 j x hj).1, (h1.2 j x hj).2⟩
end
end Go.PM
