/- Bytes as strings. -/
import Derived.Test.YthmajhdemooecaaXD
import Derived.Laws.BytesString
namespace Go.PM
set_option linter.unusedVariables false
set_option linter.unusedSimpArgs false
set_option linter.unnecessarySimpa false
open Go.RowKit

section
variable {P : Program} {B : Exit → Act → World → Prop} {σ : List Item × Act} {w : World} {hist : Nat → World}

def strOf (xs : List UInt8) : ByteArray := ⟨xs.toArray⟩
theorem strOf_inj {xs ys : List UInt8} (h : strOf xs = strOf ys) : xs = ys := by
  unfold strOf at h
  injection h with h
  injection h
theorem strOf_beq (xs ys : List UInt8) : (strOf xs == strOf ys) = decide (xs = ys) := by
  have e : (strOf xs == strOf ys) = (xs.toArray == ys.toArray) := rfl
  rw [e]
  by_cases h : xs = ys
  · subst h; simp
  · rw [decide_eq_false h]
    exact beq_eq_false_iff_ne.2 fun e => h (by injection e)

theorem toList_loop (xs : List UInt8) : ∀ (k i : Nat) (r : List UInt8), k = xs.length - i → i ≤ xs.length → ByteArray.toList.loop (strOf xs) i r = r.reverse ++ xs.drop i := by
  intro k
  induction k with
  | zero =>
    intro i r hk hi
    unfold ByteArray.toList.loop
    rw [if_neg (by show ¬ i < xs.toArray.size; simp; omega), List.drop_eq_nil_of_le (by omega), List.append_nil]
  | succ k ih =>
    intro i r hk hi
    have hlt : i < xs.length := by omega
    unfold ByteArray.toList.loop
    rw [if_pos (by show i < xs.toArray.size; simpa using hlt), ih (i + 1) _ (by omega) (by omega), List.drop_eq_getElem_cons hlt]
    have : (strOf xs).get! i = xs[i] := by
      show xs.toArray[i]! = _
      simp [hlt]
    rw [this]
    simp
theorem strOf_toList (xs : List UInt8) : (strOf xs).toList = xs := by
  unfold ByteArray.toList
  rw [toList_loop xs _ 0 [] rfl (Nat.zero_le _)]
  rfl
theorem strOf_eq (xs ys : List UInt8) : ((strOf xs).toList == (strOf ys).toList) = decide (xs = ys) := by
  rw [strOf_toList, strOf_toList]
  by_cases h : xs = ys
  · subst h; simp
  · rw [decide_eq_false h]; exact beq_eq_false_iff_ne.2 h

theorem foldl_push (xs : List UInt8) (s : ByteArray) : (xs.map fun b => (b.toNat : Int)).foldl (fun r n => r.push (UInt8.ofNat n.toNat)) s = ⟨s.data ++ xs.toArray⟩ := by
  induction xs generalizing s with
  | nil => simp
  | cons x xs ih =>
    simp only [List.map_cons, List.foldl_cons]
    rw [ih]
    simp [ByteArray.push]

def convArg (a : Act) (o : Oper) : Option (TypeId × TypeId × Value) := match o.op with | .convert s d x => some (s, d, a.eval x) | _ => none

/-- string(bytes). -/
theorem op_toStr {a : Act} {o : Oper} {s d e : TypeId} {v : Value} {xs : List UInt8} {S : Nat → Prop} (ho : convArg a o = some (s, d, v)) (hs : P.underlying s = some (.slice e)) (he : P.underlying e = some (.int .u8)) (hd : P.underlying d = some .string)
    (hx : Sl Ty.u8 w S xs v) : (execOp a.eval o).run P w = .ok (.value (.string (strOf xs))) w := by
  obtain ⟨A, c, rfl, h2, h3, h4, h5⟩ := hx
  unfold convArg at ho
  split at ho
  · rename_i s' d' x hop
    simp only [Option.some.injEq, Prod.mk.injEq] at ho
    obtain ⟨rfl, rfl, hx⟩ := ho
    unfold execOp
    rw [hop]
    simp only [hx]
    rw [bind_ok (a := Value.string (strOf xs)) (w' := w)]
    · rfl
    · rw [run_convert_bytes_string w _ _ e _ _ _ hs he hd]
      rcases Nat.eq_zero_or_pos xs.length with h0 | hp
      · have : xs = [] := List.length_eq_zero_iff.1 h0
        subst this
        cases A with
        | none => rfl
        | some ad => exact run_bytesToString w ad 0 c [] rfl
      · obtain ⟨b, o, rfl, -, hb, hrow⟩ := h5 hp
        have hl : (loadCells ⟨b, o, none⟩ xs.length).run P w = .ok ((xs.map fun b => (b.toNat : Int)).map (Value.int .u8)).toArray w := by
          have := run_loadCells (P := P) (w := w) (b := b) (o := o) (cs := (xs.map fun b => (b.toNat : Int)).map (Value.int .u8)) (fun j v hj => by
            rw [List.map_map, List.getElem?_map] at hj
            obtain ⟨x, hx, rfl⟩ := Option.map_eq_some_iff.1 hj
            obtain ⟨cs, ⟨rfl, -⟩, hc⟩ := hrow j x hx
            have := hc 0 _ rfl
            rw [show Ty.u8.sz = 1 from rfl, Nat.mul_one] at this
            simpa using this)
          simpa using this
        rw [run_bytesToString w _ _ _ _ hl, foldl_push]
        simp [strOf, ByteArray.empty, ByteArray.emptyWithCapacity]
        rfl
  · cases ho
end
end Go.PM
