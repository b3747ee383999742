/- The steps of a walk, with what the call holds. -/
import Derived.Test.YthmajhdemooecaaX5
namespace Go.PM
set_option linter.unusedVariables false
set_option linter.unusedSimpArgs false
open Go.RowKit

def upAt (c : Ck) : Nat → List Ck → List Ck
  | _, [] => []
  | 0, _ :: L => c :: L
  | n + 1, x :: L => x :: upAt c n L

theorem upAt_eq (c : Ck) : ∀ (n : Nat) (L : List Ck), n < L.length → (L.eraseIdx n).insertIdx n c = upAt c n L
  | _, [], h => by simp at h
  | 0, x :: L, _ => by simp [upAt]
  | n + 1, x :: L, h => by
    rw [List.eraseIdx_cons_succ, List.insertIdx_succ_cons, upAt_eq c n L (by simpa using h)]
    rfl

section
variable {P : Program} {B : Exit → Act → World → Prop} {σ : List Item × Act} {w0 w : World} {L : List Ck} {hist : Nat → World}

theorem HS.putU (H : HS w0 w L) (n : Nat) {b : Nat} {T : TypeId} {cs : Array Value} (hn : L[n]? = some (Ck.blk b T cs)) (cs' : Array Value) : HS w0 (putBlk w b T cs') (upAt (Ck.blk b T cs') n L) := by
  rw [← upAt_eq _ _ _ (List.getElem?_eq_some_iff.1 hn).1]
  exact H.put n hn cs'

theorem run_box {t : TypeId} {v : Value} (H : HS w0 w L) (hk : opOk σ = true) (ho : boxArg σ.2 (opOf σ) = some (t, v))
    (K : ∀ b w', HS w0 w' (Ck.blk b t v.cells :: L) → Run P B (adv P fuel (nxt σ (.pointer (some ⟨b, 0, none⟩)))) w') : Run P B σ w :=
  run_val hk (op_box ho) (K _ _ (H.alloc t v.cells))
theorem run_alloc {t : TypeId} {v : Value} (H : HS w0 w L) (hk : opOk σ = true) (ho : allocArg P (opOf σ) = some (t, v))
    (K : ∀ b w', HS w0 w' (Ck.blk b t v.cells :: L) → Run P B (adv P fuel (nxt σ (.pointer (some ⟨b, 0, none⟩)))) w') : Run P B σ w :=
  run_val hk (op_alloc ho) (K _ _ (H.alloc t v.cells))
theorem run_bs {e : TypeId} {len : Nat} {cells : Array Value} (H : HS w0 w L) (hk : opOk σ = true) (ho : bsArg P σ.2 (opOf σ) = some (e, len, cells))
    (K : ∀ b w', HS w0 w' (Ck.blk b e cells :: L) → Run P B (adv P fuel (nxt σ (.slice (some ⟨b, 0, none⟩) len len))) w') : Run P B σ w :=
  run_val hk (op_buildSlice ho) (K _ _ (H.alloc e cells))
theorem run_ld {n : Nat} {b off : Nat} {t T : TypeId} {cs : Array Value} {v : Value} (H : HS w0 w L) (hn : L[n]? = some (Ck.blk b T cs)) (hk : opOk σ = true) (ho : loadArg σ.2 (opOf σ) = some (t, .pointer (some ⟨b, off, none⟩)))
    (hv : ldv P t cs off = some v) (K : Run P B (adv P fuel (nxt σ v)) w) : Run P B σ w :=
  run_val hk (op_load ho (run_loadVar_blk (H.blk n hn) hv)) K
theorem run_st {n : Nat} {b off : Nat} {t T : TypeId} {cs cs' : Array Value} {v : Value} (H : HS w0 w L) (hn : L[n]? = some (Ck.blk b T cs)) (hk : opOk σ = true) (ho : storeArg σ.2 (opOf σ) = some (t, .pointer (some ⟨b, off, none⟩), v))
    (hv : stv P t cs off v = some cs') (K : ∀ w', HS w0 w' (upAt (Ck.blk b T cs') n L) → Run P B (adv P fuel (nxt σ undef)) w') : Run P B σ w :=
  run_unit hk (op_store ho (H.blk n hn) hv) (K _ (H.putU n hn cs'))
theorem run_callH {f : FuncId} {args : Array Value} {R : Ending → World → Prop} (H : HS w0 w L) (hk : opOk σ = true) (ho : callArg σ.2 (opOf σ) = some (f, args)) (hp : plainFn P f = true)
    (hc : Calls P f args w R) (K : ∀ e w', R e w' → ∃ v, e = .returned v ∧ Run P B (adv P fuel (nxt σ v)) w') : Run P B σ w := run_call hk ho hp hc K

theorem rob_bs {e : TypeId} {len : Nat} {cells : Array Value} (H : HS w0 w L) (hk : robHeavy P σ = true) (ho : bsArg P σ.2 (opOf σ) = some (e, len, cells))
    (K : ∀ b w', HS w0 w' (Ck.blk b e cells :: L) → RobC P B (upd hist (pcOf σ + 1) w') (advD P fuel (nxt σ (.slice (some ⟨b, 0, none⟩) len len))) w') : RobC P B hist σ w :=
  rob_val hk (op_buildSlice ho) (alloc_ext _ _) (K _ _ (H.alloc e cells))
theorem rob_box {t : TypeId} {v : Value} (H : HS w0 w L) (hk : robHeavy P σ = true) (ho : boxArg σ.2 (opOf σ) = some (t, v))
    (K : ∀ b w', HS w0 w' (Ck.blk b t v.cells :: L) → RobC P B (upd hist (pcOf σ + 1) w') (advD P fuel (nxt σ (.pointer (some ⟨b, 0, none⟩)))) w') : RobC P B hist σ w :=
  rob_val hk (op_box ho) (alloc_ext _ _) (K _ _ (H.alloc t v.cells))
theorem rob_alloc {t : TypeId} {v : Value} (H : HS w0 w L) (hk : robHeavy P σ = true) (ho : allocArg P (opOf σ) = some (t, v))
    (K : ∀ b w', HS w0 w' (Ck.blk b t v.cells :: L) → RobC P B (upd hist (pcOf σ + 1) w') (advD P fuel (nxt σ (.pointer (some ⟨b, 0, none⟩)))) w') : RobC P B hist σ w :=
  rob_val hk (op_alloc ho) (alloc_ext _ _) (K _ _ (H.alloc t v.cells))
/-- A load in a region that draws: W is the world behind what it stands behind, L what was held there. -/
theorem rob_ld {W : World} {n : Nat} {b off : Nat} {t T : TypeId} {cs : Array Value} {v : Value} (H : HS w0 W L) (hn : L[n]? = some (Ck.blk b T cs)) (hk : robLightN P σ = true) (hW : hist (loOf P σ) = W)
    (ho : loadArg σ.2 (opOf σ) = some (t, .pointer (some ⟨b, off, none⟩))) (hv : ldv P t cs off = some v) (K : RobC P B hist (advD P fuel (nxt σ v)) w) : RobC P B hist σ w :=
  rob_light v W hk hW (fun w' hE => op_load ho (run_loadVar_blk ((H.blk n hn).ext hE) hv)) K
theorem rob_st {n : Nat} {b off : Nat} {t T : TypeId} {cs cs' : Array Value} {v : Value} (H : HS w0 w L) (hn : L[n]? = some (Ck.blk b T cs)) (hk : robHeavy P σ = true) (hb : softOf σ = true) (ho : storeArg σ.2 (opOf σ) = some (t, .pointer (some ⟨b, off, none⟩), v))
    (hv : stv P t cs off v = some cs') (K : ∀ w', HS w0 w' (upAt (Ck.blk b T cs') n L) → RobC P B (upd hist (pcOf σ + 1) w') (advD P fuel (nxt σ undef)) w') : RobC P B hist σ w :=
  rob_bar hk hb (op_store ho (H.blk n hn) hv) (K _ (H.putU n hn cs'))
end
end Go.PM
