/- A walk cut in two: the first item with a post of its own, and the rest once. -/
import Derived.Test.YthmajhdemooecaaXE
import Derived.Test.YthmajhdemooecaaX9
namespace Go.PM
set_option linter.unusedVariables false
set_option linter.unusedSimpArgs false
set_option linter.unnecessarySimpa false
open Go.RowKit

section
variable {P : Program} {B : Exit → Act → World → Prop} {σ : List Item × Act} {w : World}

/-- The post of a walk's first item. -/
def BJ (B : Exit → Act → World → Prop) (J : Act → World → Prop) : Exit → Act → World → Prop
  | .normal, a, w => J a w
  | .ret, a, w => B .ret a w
  | .panic c, a, w => B (.panic c) a w
  | _, _, _ => False

def cutHead (σ : List Item × Act) : List Item × Act := match σ.1 with | i :: _ => ([i], σ.2) | [] => ([], σ.2)
def cutTail (σ : List Item × Act) : List Item := match σ.1 with | _ :: k => k | [] => []

theorem run_cut (J : Act → World → Prop) (h : Run P (BJ B J) (cutHead σ) w) (rest : ∀ a w', J a w' → Run P B (adv P fuel (cutTail σ, a)) w') : Run P B σ w := by
  obtain ⟨t, a⟩ := σ
  cases t with
  | nil =>
    intro b k2 cs
    simp only [cutHead] at h
    obtain ⟨e, a', w', hq, harr⟩ := h b k2 cs
    cases e with
    | normal =>
      obtain ⟨e2, a2, w2, hq2, harr2⟩ := (run_adv fuel (rest a' w' hq) : Run P B ([], a') w') b k2 cs
      exact ⟨e2, a2, w2, hq2, .of_steps harr harr2⟩
    | ret => exact ⟨.ret, a', w', hq, harr⟩
    | panic c => exact ⟨.panic c, a', w', hq, harr⟩
    | exit id => exact hq.elim
    | goto l => exact hq.elim
    | outgrown => exact hq.elim
  | cons i k =>
    intro b k2 cs
    simp only [cutHead] at h
    obtain ⟨e, a', w', hq, harr⟩ := h b (k ++ k2) cs
    cases e with
    | normal =>
      obtain ⟨e2, a2, w2, hq2, harr2⟩ := (run_adv fuel (rest a' w' hq) : Run P B (k, a') w') b k2 cs
      exact ⟨e2, a2, w2, hq2, .of_steps harr harr2⟩
    | ret => exact ⟨.ret, a', w', hq, harr⟩
    | panic c => exact ⟨.panic c, a', w', hq, harr⟩
    | exit id => exact hq.elim
    | goto l => exact hq.elim
    | outgrown => exact hq.elim

theorem run_cutEnd {J : Act → World → Prop} (hk : σ.1 = []) (h : J σ.2 w) : Run P (BJ B J) σ w := by
  obtain ⟨t, a⟩ := σ
  simp only at hk
  subst hk
  exact run_nil h

def isRet (σ : List Item × Act) : Bool := match σ.1 with | .code .ret :: _ => true | _ => false
theorem run_retB (hk : isRet σ = true) (h : B .ret σ.2 w) : Run P B σ w := by
  obtain ⟨l, a⟩ := σ
  unfold isRet at hk
  simp only at hk
  split at hk
  · exact fun b k cs => ⟨.ret, a, w, h, _, .one step_ret⟩
  · cases hk
/-- A return within a cut's head. -/
theorem run_retJ {fn : Func} {R : Ending → World → Prop} {J : Act → World → Prop} {v : Value} (hk : isRet σ = true) (hd : σ.2.defers = []) (hr : (results fn σ.2.tmps).run P w = .ok v w)
    (h : R (.returned v) w) : Run P (BJ (bodyPost P fn R) J) σ w := run_retB hk ⟨hd, v, hr, h⟩

theorem run_elemZ {α : Type} {W : World} {d : Ty α} {xs : List α} {A : Option Addr} {n c i : Nat} {z : Int} {x : α} {t e : TypeId} {k : IntKind} (hz : z = (i : Int)) (hx : Sl d W Any xs (.slice A n c)) (hg : xs[i]? = some x) (hk : opOk σ = true) (ho : idxArg σ.2 (opOf σ) = some (t, .slice A n c, .int k z))
    (hu : P.underlying t = some (.slice e)) (hs : sizeT P e = some d.sz)
    (K : ∀ b o cs, d.K W Any x cs → At W b o cs → Run P B (adv P fuel (nxt σ (.pointer (some ⟨b, o, none⟩)))) w) : Run P B σ w := by
  subst hz; exact run_elem hx hg hk ho hu hs K
theorem rob_elemZ {α : Type} {W : World} {hist : Nat → World} {d : Ty α} {xs : List α} {A : Option Addr} {n c i : Nat} {z : Int} {x : α} {t e : TypeId} {k : IntKind} {W' : World} (hz : z = (i : Int)) (hx : Sl d W Any xs (.slice A n c)) (hg : xs[i]? = some x) (hk : robLightN P σ = true) (hW : hist (loOf P σ) = W') (ho : idxArg σ.2 (opOf σ) = some (t, .slice A n c, .int k z))
    (hu : P.underlying t = some (.slice e)) (hs : sizeT P e = some d.sz)
    (K : ∀ b o cs, d.K W Any x cs → At W b o cs → RobC P B hist (advD P fuel (nxt σ (.pointer (some ⟨b, o, none⟩)))) w) : RobC P B hist σ w := by
  subst hz; exact rob_elem hx hg hk hW ho hu hs K

theorem robF_elem {α : Type} {W : World} {hist : Nat → World} {U : Nat → Prop} {d : Ty α} {xs : List α} {A : Option Addr} {n c i : Nat} {x : α} {t e : TypeId} {k : IntKind} {W' : World} (hx : Sl d W Any xs (.slice A n c)) (hg : xs[i]? = some x) (hk : fltLight P σ = true) (hW : hist (loOf P σ) = W') (ho : idxArg σ.2 (opOf σ) = some (t, .slice A n c, .int k (i : Int)))
    (hu : P.underlying t = some (.slice e)) (hs : sizeT P e = some d.sz)
    (K : ∀ b o cs, d.K W Any x cs → At W b o cs → RobCF P B U hist (advF P fuel (nxt σ (.pointer (some ⟨b, o, none⟩)))) w) : RobCF P B U hist σ w := by
  obtain ⟨b, off, cs, rfl, hK, hc⟩ := hx.at hg
  have hl := hx.len
  have hlt := (List.getElem?_eq_some_iff.1 hg).1
  exact robF_light _ W' hk hW (fun w' _ => op_indexN ho hu hs (by omega)) (K b _ cs hK hc)
theorem robF_eld {W : World} {hist : Nat → World} {U : Nat → Prop} {t : TypeId} {b o off f : Nat} {cs : List Value} {v : Value} {W' : World} (hc : At W b o cs) (hE : Ext W W') (hv : cs[f]? = some v) (hoff : o + f = off) (hk : fltLight P σ = true) (hW : hist (loOf P σ) = W') (ho : loadArg σ.2 (opOf σ) = some (t, .pointer (some ⟨b, off, none⟩))) (ha : aggT P t = some false)
    (K : RobCF P B U hist (advF P fuel (nxt σ v)) w) : RobCF P B U hist σ w := by
  subst hoff
  exact robF_light v W' hk hW (fun w' h => op_load ho (run_loadVar_one ha (hc w' (hE.trans h) f v hv))) K
theorem robF_elda {W : World} {hist : Nat → World} {U : Nat → Prop} {t : TypeId} {b o off f : Nat} {cs cs' : List Value} {W' : World} (hc : At W b o cs) (hE : Ext W W') (hv : (cs.drop f).take cs'.length = cs') (hoff : o + f = off) (hk : fltLight P σ = true) (hW : hist (loOf P σ) = W') (ho : loadArg σ.2 (opOf σ) = some (t, .pointer (some ⟨b, off, none⟩))) (ha : aggT P t = some true) (hs : sizeT P t = some cs'.length)
    (K : RobCF P B U hist (advF P fuel (nxt σ (.agg cs'.toArray))) w) : RobCF P B U hist σ w := by
  subst hoff
  refine robF_light _ W' hk hW (fun w' h => op_load ho (run_loadVar_agg ha hs fun j v hj => ?_)) K
  rw [← hv, List.getElem?_take] at hj
  split at hj
  · rw [List.getElem?_drop] at hj
    have := hc w' (hE.trans h) _ v hj
    rwa [← Nat.add_assoc] at this
  · cases hj

theorem run_bs0 {w0 : World} {L : List Ck} {α : Type} {e : TypeId} (d : Ty α) (H : HS w0 w L) (hk : opOk σ = true) (ho : bsArg P σ.2 (opOf σ) = some (e, 0, #[]))
    (K : ∀ b w', HS w0 w' (Ck.own d e (.slice (some ⟨b, 0, none⟩) 0 0) ([] : List α) :: L) → Run P B (adv P fuel (nxt σ (.slice (some ⟨b, 0, none⟩) 0 0))) w') : Run P B σ w :=
  run_val hk (op_buildSlice ho) (K _ _ (H.made0 d e))
theorem rob_bs0 {w0 : World} {L : List Ck} {hist : Nat → World} {α : Type} {e : TypeId} (d : Ty α) (H : HS w0 w L) (hk : robHeavy P σ = true) (ho : bsArg P σ.2 (opOf σ) = some (e, 0, #[]))
    (K : ∀ b w', HS w0 w' (Ck.own d e (.slice (some ⟨b, 0, none⟩) 0 0) ([] : List α) :: L) → RobC P B (upd hist (pcOf σ + 1) w') (advD P fuel (nxt σ (.slice (some ⟨b, 0, none⟩) 0 0))) w') : RobC P B hist σ w :=
  rob_val hk (op_buildSlice ho) (alloc_ext _ _) (K _ _ (H.made0 d e))
end
end Go.PM
