/- A slice that is read: in memory of the call's own, or in what was handed in. -/
import Derived.Test.YthmajhdemooecaaXF
namespace Go.PM
set_option linter.unusedVariables false
set_option linter.unusedSimpArgs false
open Go.RowKit

section
variable {α β : Type}
def Ck.sl (d : Ty α) (xs : List α) (v : Value) (W : World) : Ck where
  h := fun w S => Sl d w S xs v ∨ Sl d W Any xs v
  loc := fun h hk => h.imp (fun h => h.loc hk) id
  trim := fun h => h.imp (fun h => h.trim) id

theorem HS.sl2 {w0 w : World} {L : List Ck} (h : HS w0 w L) (n : Nat) {d : Ty α} {v : Value} {xs : List α} (hn : L[n]? = some (Ck.sl d xs v w0)) : Sl d w Any xs v := by
  obtain ⟨S, h1, -⟩ := h.nth n hn
  rcases h1 with h1 | h1
  · exact h1.any
  · exact h1.ext h.below
theorem HS.slIn {w0 w : World} {L : List Ck} (h : HS w0 w L) {d : Ty α} {v : Value} {xs : List α} (hx : Sl d w0 Any xs v) : HS w0 w (Ck.sl d xs v w0 :: L) :=
  h.new (Ext.refl w) (S := fun _ => False) (.inr hx) fun k hk => hk.elim
theorem HS.slOwn {w0 w : World} {L : List Ck} {d : Ty α} {e : TypeId} {v : Value} {xs : List α} (h : HS w0 w (Ck.own d e v xs :: L)) : HS w0 w (Ck.sl d xs v w0 :: L) := h.map fun S hS => .inl (own_sl hS)
theorem HS.toSl2 {w0 w : World} {L : List Ck} {c0 : Ck} {d : Ty α} {d' : Ty β} {e e' : TypeId} {v v' : Value} {xs : List α} {ys : List β} (h : HS w0 w (c0 :: Ck.own d e v xs :: Ck.own d' e' v' ys :: L)) :
    HS w0 w (c0 :: Ck.sl d xs v w0 :: Ck.sl d' ys v' w0 :: L) :=
  (((h.pick 2 rfl).slOwn.pick 2 rfl).slOwn.pick 2 rfl)
end
end Go.PM
