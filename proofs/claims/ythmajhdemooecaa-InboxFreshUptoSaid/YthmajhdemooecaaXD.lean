/- Elements of slices that are read; yes or no that is asked the other way round. -/
import Derived.Test.YthmajhdemooecaaXC
import Derived.Test.YthmajhdemooecaaX8
namespace Go.PM
set_option linter.unusedVariables false
set_option linter.unusedSimpArgs false
set_option linter.unnecessarySimpa false
open Go.RowKit

section
variable {α : Type} {P : Program} {B : Exit → Act → World → Prop} {σ : List Item × Act} {w W : World} {hist : Nat → World}

/-- The cells at a place, in whatever the world has grown to. -/
def At (W : World) (b o : Nat) (cs : List Value) : Prop := ∀ w', Ext W w' → ∀ k u, cs[k]? = some u → w'.cell? ⟨b, o + k, none⟩ = some u

theorem Sl.at {d : Ty α} {xs : List α} {A : Option Addr} {n c i : Nat} {x : α} (hx : Sl d W Any xs (.slice A n c)) (hg : xs[i]? = some x) :
    ∃ b off cs, A = some ⟨b, off, none⟩ ∧ d.K W Any x cs ∧ At W b (off + i * d.sz) cs := by
  obtain ⟨A', c', he, h2, h3, h4, h5⟩ := hx
  injection he with e1 e2 e3
  subst e1 e3
  have hlt := (List.getElem?_eq_some_iff.1 hg).1
  obtain ⟨b, o, rfl, _, hb, hrow⟩ := h5 (by omega)
  obtain ⟨cs, hK, hc⟩ := hrow i x hg
  exact ⟨b, o, cs, rfl, hK, fun w' hE k u hu => by rw [cell_same (hE.block b hb)]; exact hc k u hu⟩

theorem run_elem {d : Ty α} {xs : List α} {A : Option Addr} {n c i : Nat} {x : α} {t e : TypeId} {k : IntKind} (hx : Sl d W Any xs (.slice A n c)) (hg : xs[i]? = some x) (hk : opOk σ = true) (ho : idxArg σ.2 (opOf σ) = some (t, .slice A n c, .int k (i : Int)))
    (hu : P.underlying t = some (.slice e)) (hs : sizeT P e = some d.sz)
    (K : ∀ b o cs, d.K W Any x cs → At W b o cs → Run P B (adv P fuel (nxt σ (.pointer (some ⟨b, o, none⟩)))) w) : Run P B σ w := by
  obtain ⟨b, off, cs, rfl, hK, hc⟩ := hx.at hg
  have hl := hx.len
  have hlt := (List.getElem?_eq_some_iff.1 hg).1
  exact run_val hk (op_indexN ho hu hs (by omega)) (K b _ cs hK hc)

theorem rob_elem {d : Ty α} {xs : List α} {A : Option Addr} {n c i : Nat} {x : α} {t e : TypeId} {k : IntKind} {W' : World} (hx : Sl d W Any xs (.slice A n c)) (hg : xs[i]? = some x) (hk : robLightN P σ = true) (hW : hist (loOf P σ) = W') (ho : idxArg σ.2 (opOf σ) = some (t, .slice A n c, .int k (i : Int)))
    (hu : P.underlying t = some (.slice e)) (hs : sizeT P e = some d.sz)
    (K : ∀ b o cs, d.K W Any x cs → At W b o cs → RobC P B hist (advD P fuel (nxt σ (.pointer (some ⟨b, o, none⟩)))) w) : RobC P B hist σ w := by
  obtain ⟨b, off, cs, rfl, hK, hc⟩ := hx.at hg
  have hl := hx.len
  have hlt := (List.getElem?_eq_some_iff.1 hg).1
  exact rob_light _ W' hk hW (fun w' _ => op_indexN ho hu hs (by omega)) (K b _ cs hK hc)

theorem run_eld {t : TypeId} {b o off f : Nat} {cs : List Value} {v : Value} (hc : At W b o cs) (hE : Ext W w) (hv : cs[f]? = some v) (hoff : o + f = off) (hk : opOk σ = true) (ho : loadArg σ.2 (opOf σ) = some (t, .pointer (some ⟨b, off, none⟩))) (ha : aggT P t = some false)
    (K : Run P B (adv P fuel (nxt σ v)) w) : Run P B σ w := by
  subst hoff
  exact run_val hk (op_load ho (run_loadVar_one ha (hc w hE f v hv))) K
theorem rob_eld {t : TypeId} {b o off f : Nat} {cs : List Value} {v : Value} {W' : World} (hc : At W b o cs) (hE : Ext W W') (hv : cs[f]? = some v) (hoff : o + f = off) (hk : robLightN P σ = true) (hW : hist (loOf P σ) = W') (ho : loadArg σ.2 (opOf σ) = some (t, .pointer (some ⟨b, off, none⟩))) (ha : aggT P t = some false)
    (K : RobC P B hist (advD P fuel (nxt σ v)) w) : RobC P B hist σ w := by
  subst hoff
  exact rob_light v W' hk hW (fun w' h => op_load ho (run_loadVar_one ha (hc w' (hE.trans h) f v hv))) K
theorem run_elda {t : TypeId} {b o off f : Nat} {cs cs' : List Value} (hc : At W b o cs) (hE : Ext W w) (hv : (cs.drop f).take cs'.length = cs') (hoff : o + f = off) (hk : opOk σ = true) (ho : loadArg σ.2 (opOf σ) = some (t, .pointer (some ⟨b, off, none⟩))) (ha : aggT P t = some true) (hs : sizeT P t = some cs'.length)
    (K : Run P B (adv P fuel (nxt σ (.agg cs'.toArray))) w) : Run P B σ w := by
  subst hoff
  refine run_val hk (op_load ho (run_loadVar_agg ha hs fun j v hj => ?_)) K
  rw [← hv, List.getElem?_take] at hj
  split at hj
  · rw [List.getElem?_drop] at hj
    have := hc w hE _ v hj
    rwa [← Nat.add_assoc] at this
  · cases hj
theorem rob_elda {t : TypeId} {b o off f : Nat} {cs cs' : List Value} {W' : World} (hc : At W b o cs) (hE : Ext W W') (hv : (cs.drop f).take cs'.length = cs') (hoff : o + f = off) (hk : robLightN P σ = true) (hW : hist (loOf P σ) = W') (ho : loadArg σ.2 (opOf σ) = some (t, .pointer (some ⟨b, off, none⟩))) (ha : aggT P t = some true) (hs : sizeT P t = some cs'.length)
    (K : RobC P B hist (advD P fuel (nxt σ (.agg cs'.toArray))) w) : RobC P B hist σ w := by
  subst hoff
  refine rob_light _ W' hk hW (fun w' h => op_load ho (run_loadVar_agg ha hs fun j v hj => ?_)) K
  rw [← hv, List.getElem?_take] at hj
  split at hj
  · rw [List.getElem?_drop] at hj
    have := hc w' (hE.trans h) _ v hj
    rwa [← Nat.add_assoc] at this
  · cases hj

theorem run_askN (p : Prop) [Decidable p] (hk : opOk σ = true) (h : (execOp σ.2.eval (opOf σ)).run P w = .ok (.value (.bool (!decide p))) w)
    (H : p → Run P B (adv P fuel (nxt σ (.bool false))) w) (H' : ¬ p → Run P B (adv P fuel (nxt σ (.bool true))) w) : Run P B σ w := by
  by_cases hp : p
  · rw [decide_eq_true hp] at h; exact run_val hk h (H hp)
  · rw [decide_eq_false hp] at h; exact run_val hk h (H' hp)
theorem rob_askN (p : Prop) [Decidable p] (hk : robLight P σ = true) (h : ∀ w', (execOp σ.2.eval (opOf σ)).run P w' = .ok (.value (.bool (!decide p))) w')
    (H1 : p → RobC P B hist (advD P fuel (nxt σ (.bool false))) w) (H2 : ¬ p → RobC P B hist (advD P fuel (nxt σ (.bool true))) w) : RobC P B hist σ w := by
  by_cases hp : p
  · rw [decide_eq_true hp] at h; exact rob_pure _ hk h (H1 hp)
  · rw [decide_eq_false hp] at h; exact rob_pure _ hk h (H2 hp)
/-- A yes or no that is there, by cases. -/
theorem run_askB (t : Bool) (hk : opOk σ = true) (h : (execOp σ.2.eval (opOf σ)).run P w = .ok (.value (.bool t)) w)
    (H : t = true → Run P B (adv P fuel (nxt σ (.bool true))) w) (H' : t = false → Run P B (adv P fuel (nxt σ (.bool false))) w) : Run P B σ w := by
  cases t with
  | true => exact run_val hk h (H rfl)
  | false => exact run_val hk h (H' rfl)
theorem rob_askB (t : Bool) (hk : robLight P σ = true) (h : ∀ w', (execOp σ.2.eval (opOf σ)).run P w' = .ok (.value (.bool t)) w')
    (H : t = true → RobC P B hist (advD P fuel (nxt σ (.bool true))) w) (H' : t = false → RobC P B hist (advD P fuel (nxt σ (.bool false))) w) : RobC P B hist σ w := by
  cases t with
  | true => exact rob_pure _ hk h (H rfl)
  | false => exact rob_pure _ hk h (H' rfl)
end
end Go.PM
