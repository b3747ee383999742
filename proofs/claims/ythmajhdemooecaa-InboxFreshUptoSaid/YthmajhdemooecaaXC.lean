/- Pieces chosen by their places. -/
import Derived.Test.YthmajhdemooecaaXB
namespace Go.PM
set_option linter.unusedVariables false
set_option linter.unusedSimpArgs false
set_option linter.unnecessarySimpa false
open Go.RowKit

theorem Sep.fam {w : World} : ∀ {L : List Ck} {U : Nat → Prop}, Sep w U L → ∃ f : Nat → Nat → Prop, (∀ i c, L[i]? = some c → c.h w (f i) ∧ ∀ k, f i k → U k) ∧ ∀ i j k, i ≠ j → i < L.length → j < L.length → f i k → ¬ f j k
  | [], U, _ => ⟨fun _ _ => False, fun i c h => by simp at h, fun _ _ _ _ h => by simp at h⟩
  | c :: L, U, ⟨S, h1, h2, h3⟩ => by
    obtain ⟨f, g1, g2⟩ := Sep.fam h3
    refine ⟨fun i => match i with | 0 => S | i + 1 => f i, fun i d h => ?_, fun i j k hij hi hj hk => ?_⟩
    · cases i with
      | zero => simp at h; subst h; exact ⟨h1, h2⟩
      | succ i => obtain ⟨a, b⟩ := g1 i d (by simpa using h); exact ⟨a, fun k hk => (b k hk).1⟩
    · cases i with
      | zero =>
        cases j with
        | zero => exact absurd rfl hij
        | succ j =>
          intro hk'
          have hjl : j < L.length := by simpa using hj
          exact ((g1 j L[j] (List.getElem?_eq_getElem hjl)).2 k hk').2 hk
      | succ i =>
        have hil : i < L.length := by simpa using hi
        cases j with
        | zero => intro hk'; exact ((g1 i L[i] (List.getElem?_eq_getElem hil)).2 k hk).2 hk'
        | succ j => exact g2 i j k (by omega) hil (by simpa using hj) hk

theorem Sep.of_fam {w : World} {L : List Ck} (f : Nat → Nat → Prop) : ∀ (is : List Nat) (L' : List Ck) (U : Nat → Prop), is.map (L[·]?) = L'.map some → is.Nodup → (∀ i (c : Ck), L[i]? = some c → c.h w (f i)) →
    (∀ i ∈ is, ∀ k, f i k → U k) → (∀ i j k, i ≠ j → i < L.length → j < L.length → f i k → ¬ f j k) → Sep w U L'
  | [], [], _, _, _, _, _, _ => trivial
  | [], _ :: _, _, h, _, _, _, _ => by simp at h
  | _ :: _, [], _, h, _, _, _, _ => by simp at h
  | i :: is, c :: L', U, h, hn, hc, hU, hd => by
    simp only [List.map_cons, List.cons.injEq] at h
    rw [List.nodup_cons] at hn
    have hil := (List.getElem?_eq_some_iff.1 h.1).1
    refine ⟨f i, hc i c h.1, fun k hk => hU i (by simp) k hk, Sep.of_fam f is L' _ h.2 hn.2 hc (fun j hj k hk => ⟨hU j (List.mem_cons_of_mem _ hj) k hk, fun hk' => ?_⟩) hd⟩
    have hne : i ≠ j := fun e => hn.1 (e ▸ hj)
    have hjl : j < L.length := by
      rcases Nat.lt_or_ge j L.length with hh | hh
      · exact hh
      · exfalso
        have : L[j]? ∈ is.map (L[·]?) := List.mem_map.2 ⟨j, hj, rfl⟩
        rw [h.2, List.getElem?_eq_none hh] at this
        simp at this
    exact hd i j k hne hil hjl hk' hk

/-- The pieces at these places, in this order. -/
theorem HS.sel {w0 w : World} {L : List Ck} (H : HS w0 w L) (is : List Nat) (hn : is.Nodup) {L' : List Ck} (h : is.map (L[·]?) = L'.map some) : HS w0 w L' := by
  obtain ⟨f, h1, h2⟩ := H.2.fam
  refine ⟨H.1, Sep.of_fam f is L' _ h hn (fun i c hi => (h1 i c hi).1) (fun i hi k hk => ?_) h2⟩
  rcases Nat.lt_or_ge i L.length with hh | hh
  · exact (h1 i _ (List.getElem?_eq_getElem hh)).2 k hk
  · exfalso
    have : L[i]? ∈ is.map (L[·]?) := List.mem_map.2 ⟨i, hi, rfl⟩
    rw [h, List.getElem?_eq_none hh] at this
    simp at this

theorem HS.putObjE {w0 w w3 : World} {L : List Ck} {l : Nat} {o o' : Obj} (H : HS w0 w (Ck.obj l o :: L)) (hw : w3 = w.putObj l o') : HS w0 w3 (Ck.obj l o' :: L) := by
  subst hw; exact H.putObj0 _

section
variable {P : Program} {l : Nat} {B : Act → World → Prop} {σ : List Item × Act} {w0 w : World} {L : List Ck}

theorem runR_busy {rec : Loop} (H : HS w0 w (Ck.obj l (.loop rec) :: L)) (K : ∀ w', HS w0 w' (Ck.obj l (.loop { rec with state := .busy }) :: L) → RunR P l B σ w') : RunR P l B σ (w.putObj l (.loop { rec with state := .busy })) := K _ (H.putObj0 _)
theorem runR_ld {n b off : Nat} {t T : TypeId} {cs : Array Value} {v : Value} (H : HS w0 w L) (hn : L[n]? = some (Ck.blk b T cs)) (hk : opOk σ = true) (hd : notDefer σ = true) (ho : loadArg σ.2 (opOf σ) = some (t, .pointer (some ⟨b, off, none⟩)))
    (hv : ldv P t cs off = some v) (K : RunR P l B (adv P fuel (nxt σ v)) w) : RunR P l B σ w :=
  runR_val hk hd (op_load ho (run_loadVar_blk (H.blk n hn) hv)) K
theorem runR_st {n b off : Nat} {t T : TypeId} {cs cs' : Array Value} {v : Value} (H : HS w0 w L) (hn : L[n]? = some (Ck.blk b T cs)) (hk : opOk σ = true) (hd : notDefer σ = true) (ho : storeArg σ.2 (opOf σ) = some (t, .pointer (some ⟨b, off, none⟩), v))
    (hv : stv P t cs off v = some cs') (K : ∀ w', HS w0 w' (upAt (Ck.blk b T cs') n L) → RunR P l B (adv P fuel (nxt σ undef)) w') : RunR P l B σ w :=
  runR_unit hk hd (op_store ho (H.blk n hn) hv) (K _ (H.putU n hn cs'))
theorem runR_bs {e : TypeId} {len : Nat} {cells : Array Value} (H : HS w0 w L) (hk : opOk σ = true) (hd : notDefer σ = true) (ho : bsArg P σ.2 (opOf σ) = some (e, len, cells))
    (K : ∀ b w', HS w0 w' (Ck.blk b e cells :: L) → RunR P l B (adv P fuel (nxt σ (.slice (some ⟨b, 0, none⟩) len len))) w') : RunR P l B σ w :=
  runR_val hk hd (op_buildSlice ho) (K _ _ (H.alloc e cells))
end
end Go.PM
