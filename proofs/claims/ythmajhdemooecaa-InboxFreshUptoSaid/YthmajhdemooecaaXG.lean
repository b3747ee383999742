/- A slice that is read: in memory of the call's own, or in what was handed in. -/
import Derived.Test.YthmajhdemooecaaXF
namespace Go.PM
set_option linter.unusedVariables false
set_option linter.unusedSimpArgs false
open Go.RowKit

section
variable {α β : Type}
def Ck.sl (d : Ty α) (xs : List α) (v : Value) (W : World) : Ck where
  h := fun w S => Sl d w S xs v ∨ Sl d W Any xs v
  loc := fun h hk => h.imp (fun h => h.loc hk) id
  trim := fun h => h.imp (fun h => h.trim) id

theorem HS.sl2 {w0 w : World} {L : List Ck} (h : HS w0 w L) (n : Nat) {d : Ty α} {v : Value} {xs : List α} (hn : L[n]? = some (Ck.sl d xs v w0)) : Sl d w Any xs v := by
  obtain ⟨S, h1, -⟩ := h.nth n hn
  rcases h1 with h1 | h1
  · exact h1.any
  · exact h1.ext h.below
theorem HS.slIn {w0 w : World} {L : List Ck} (h : HS w0 w L) {d : Ty α} {v : Value} {xs : List α} (hx : Sl d w0 Any xs v) : HS w0 w (Ck.sl d xs v w0 :: L) :=
  h.new (Ext.refl w) (S := fun _ => False) (.inr hx) fun k hk => hk.elim
theorem HS.slOwn {w0 w : World} {L : List Ck} {d : Ty α} {e : TypeId} {v : Value} {xs : List α} (h : HS w0 w (Ck.own d e v xs :: L)) : HS w0 w (Ck.sl d xs v w0 :: L) := h.map fun S hS => .inl (own_sl hS)
theorem HS.toSl2 {w0 w : World} {L : List Ck} {c0 : Ck} {d : Ty α} {d' : Ty β} {e e' : TypeId} {v v' : Value} {xs : List α} {ys : List β} (h : HS w0 w (c0 :: Ck.own d e v xs :: Ck.own d' e' v' ys :: L)) :
    HS w0 w (c0 :: Ck.sl d xs v w0 :: Ck.sl d' ys v' w0 :: L) :=
  (((h.pick 2 rfl).slOwn.pick 2 rfl).slOwn.pick 2 rfl)

/-- Pieces ahead of a rest that is kept. -/
theorem HS.selT {w0 w : World} {A R L' : List Ck} (H : HS w0 w (A ++ R)) (is : List Nat) (hn : is.Nodup) (hlt' : is.all (fun i => decide (i < A.length)) = true) (h : is.map (A[·]?) = L'.map some) : HS w0 w (L' ++ R) := by
  have hlt : ∀ i ∈ is, i < A.length := fun i hi => of_decide_eq_true (List.all_eq_true.1 hlt' i hi)
  refine H.sel (is ++ (List.range R.length).map (A.length + ·)) ?_ ?_
  · rw [List.nodup_append]
    refine ⟨hn, ?_, ?_⟩
    · exact List.Pairwise.map _ (fun a b hab => by intro h; exact hab (by omega)) List.nodup_range
    · intro a ha b hb
      obtain ⟨c, -, rfl⟩ := List.mem_map.1 hb
      have := hlt a ha
      omega
  · rw [List.map_append, List.map_append]
    congr 1
    · rw [← h]
      exact List.map_congr_left fun i hi => List.getElem?_append_left (hlt i hi)
    · apply List.ext_getElem?
      intro i
      rw [List.map_map, List.getElem?_map, List.getElem?_map]
      rcases Nat.lt_or_ge i R.length with hi | hi
      · rw [List.getElem?_range hi, List.getElem?_eq_getElem hi]
        simp [hi]
      · rw [List.getElem?_eq_none (by simpa using hi), List.getElem?_eq_none hi]; rfl
end
end Go.PM
