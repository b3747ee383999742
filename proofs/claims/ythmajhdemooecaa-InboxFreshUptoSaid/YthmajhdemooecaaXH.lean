/- Bytes as elements: what is of a call's own may be grown in its place. -/
import Derived.Test.YthmajhdemooecaaX6
namespace Go.PM
set_option linter.unusedVariables false
open Go.RowKit

/-- A row of its own, whatever its cells. -/
def Rm (e : TypeId) (w : World) (S : Nat → Prop) (v : Value) (n : Nat) : Prop := ∃ cs, (Ck.row e 1 v n cs).h w S
theorem Rm.mono {e : TypeId} {w : World} {S S' : Nat → Prop} {v : Value} {n : Nat} (h : Rm e w S v n) (hS : ∀ k, S k → S' k) : Rm e w S' v n :=
  let ⟨cs, h1, h2⟩ := h
  ⟨cs, h1, fun b hb => hS b (h2 b hb)⟩
theorem Rm.loc {e : TypeId} {w w' : World} {S : Nat → Prop} {v : Value} {n : Nat} (h : Rm e w S v n) (hS : ∀ k, S k → k < w.heap.size → w'.heap[k]? = w.heap[k]?) : Rm e w' S v n :=
  let ⟨cs, h1⟩ := h
  ⟨cs, (Ck.row e 1 v n cs).loc h1 hS⟩
theorem Rm.trim {e : TypeId} {w : World} {S : Nat → Prop} {v : Value} {n : Nat} (h : Rm e w S v n) : Rm e w (fun k => S k ∧ k < w.heap.size) v n :=
  let ⟨cs, h1⟩ := h
  ⟨cs, (Ck.row e 1 v n cs).trim h1⟩
theorem size_keep {w w' : World} {k : Nat} (h : w'.heap[k]? = w.heap[k]?) (hk : k < w.heap.size) : k < w'.heap.size := by
  rcases Nat.lt_or_ge k w'.heap.size with h' | h'
  · exact h'
  · rw [Array.getElem?_eq_none h', Array.getElem?_eq_getElem hk] at h
    cases h
theorem Rm.own {e : TypeId} {w : World} {S : Nat → Prop} {v : Value} {xs : List UInt8} (h : (Ck.own Ty.u8 e v xs).h w S) : Rm e w S v xs.length :=
  let ⟨cs, h1, _⟩ := h
  ⟨cs, h1⟩
theorem Rm.nil {e : TypeId} {w : World} {S : Nat → Prop} : Rm e w S (.slice none 0 0) 0 := ⟨[], World.ownsRow_nil _ _ _ _, fun b hb => by simp [Value.ownBlock] at hb⟩

/-- Bytes as an element. Where block 0 may be among the blocks, they need not be of a call's own. -/
def Ty.bytes (e : TypeId) : Ty (List UInt8) where
  sz := 1
  K := fun w S x cs => ∃ v, cs = [v] ∧ Sl Ty.u8 w S x v ∧ ((S 0 ∧ 0 < w.heap.size) ∨ Rm e w S v x.length)
  len := fun ⟨v, h, _⟩ => by rw [h]; rfl
  one := fun ⟨v, h, h2, _⟩ u hu => by
    obtain ⟨A, c, h3⟩ := h2.form
    rw [h, List.mem_singleton] at hu
    rw [hu, h3]; rfl
  mono := fun ⟨v, h, h2, h3⟩ hS => ⟨v, h, h2.mono hS, h3.imp (fun h => ⟨hS 0 h.1, h.2⟩) (fun h => h.mono hS)⟩
  loc := fun ⟨v, h, h2, h3⟩ hS => ⟨v, h, h2.loc hS, h3.imp (fun h => ⟨h.1, size_keep (hS 0 h.1 h.2) h.2⟩) (fun h => h.loc hS)⟩
  trim := fun ⟨v, h, h2, h3⟩ => ⟨v, h, h2.trim, h3.imp (fun h => ⟨⟨h.1, h.2⟩, h.2⟩) (fun h => h.trim)⟩
end Go.PM
