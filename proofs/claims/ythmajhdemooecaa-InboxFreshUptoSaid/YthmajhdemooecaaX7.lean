/- Arrays by their places; an index that is reckoned; words put together of bytes. -/
import Derived.Test.YthmajhdemooecaaX6
namespace Go.PM
set_option linter.unusedVariables false
set_option linter.unusedSimpArgs false
open Go.RowKit

section
variable {P : Program}

/-- The cells of n places. -/
def tab (n : Nat) (f : Nat → Value) : Array Value := ((List.range n).map f).toArray

theorem tab_size (n : Nat) (f : Nat → Value) : (tab n f).size = n := by simp [tab]
theorem tab_get {n : Nat} {f : Nat → Value} {i : Nat} (h : i < n) : (tab n f)[i]? = some (f i) := by simp [tab, h]
theorem tab_set (n : Nat) (f : Nat → Value) (j : Nat) (v : Value) : (tab n f).setIfInBounds j v = tab n (fun i => if i = j then v else f i) := by
  apply Array.ext_getElem?
  intro i
  rcases Nat.lt_or_ge i n with h | h
  · by_cases hij : j = i
    · subst hij
      rw [Array.getElem?_setIfInBounds_self, tab_get h, tab_size]
      simp [h]
    · rw [Array.getElem?_setIfInBounds_ne hij, tab_get h, tab_get h, if_neg (fun e => hij e.symm)]
  · rw [Array.getElem?_eq_none (by simp [tab_size, h]), Array.getElem?_eq_none (by simp [tab_size, h])]
theorem tab_congr {n : Nat} {f g : Nat → Value} (h : ∀ i, i < n → f i = g i) : tab n f = tab n g := by
  unfold tab
  congr 1
  apply List.map_congr_left
  intro i hi
  exact h i (List.mem_range.1 hi)

/-- An array's place, by an index that was reckoned. -/
theorem op_indexA {a : Act} {o : Oper} {t e : TypeId} {sz b off n j : Nat} {k : IntKind} {i : Int} {w : World} (ho : idxArg a o = some (t, .pointer (some ⟨b, off, none⟩), .int k i))
    (hu : P.underlying t = some (.array n e)) (hs : sizeT P e = some sz) (hi : i = (j : Int)) (h1 : j < n) :
    (execOp a.eval o).run P w = .ok (.value (.pointer (some ⟨b, off + j * sz, none⟩))) w := by
  subst hi
  unfold idxArg at ho
  split at ho
  · rename_i t' x y hop
    simp only [Option.some.injEq, Prod.mk.injEq] at ho
    obtain ⟨rfl, hx, hy⟩ := ho
    unfold execOp
    rw [hop]
    simp only [hx, hy]
    rw [bind_ok (a := Value.pointer (some ⟨b, off + j * sz, none⟩)) (w' := w)]
    · rfl
    · unfold Instr.indexAt
      rw [bind_ok (a := (k, (j : Int))) (w' := w) rfl]
      simp only
      rw [bind_ok (run_underlying' hu w)]
      simp only
      rw [bind_ok (a := (⟨b, off, none⟩ : Addr)) (w' := w) rfl]
      rw [bind_ok (a := (some (⟨b, off, none⟩ : Addr), n, e)) (w' := w) rfl]
      simp only
      rw [bind_ok (run_underlying' hu w)]
      simp only
      rw [if_pos ⟨by omega, by omega⟩, bind_ok (run_sizeOf hs w), add_off]
      simp only [Int.toNat_natCast]
      rfl
  · cases ho

/-- A slice's place, by an index that was reckoned. -/
theorem op_indexS {a : Act} {o : Oper} {t e : TypeId} {sz b off n c j : Nat} {k : IntKind} {i : Int} {w : World} (ho : idxArg a o = some (t, .slice (some ⟨b, off, none⟩) n c, .int k i))
    (hu : P.underlying t = some (.slice e)) (hs : sizeT P e = some sz) (hi : i = (j : Int)) (h1 : j < n) :
    (execOp a.eval o).run P w = .ok (.value (.pointer (some ⟨b, off + j * sz, none⟩))) w := by
  subst hi
  exact op_indexN ho hu hs h1

/-- A load of one cell out of a block whose cells are known by place. -/
theorem op_load1 {a : Act} {o : Oper} {t T : TypeId} {b off : Nat} {w : World} {cs : Array Value} {v : Value} (ho : loadArg a o = some (t, .pointer (some ⟨b, off, none⟩))) (ha : aggT P t = some false)
    (hb : Blk w b T cs) (hv : cs[off]? = some v) : (execOp a.eval o).run P w = .ok (.value v) w :=
  op_load ho (run_loadVar_one ha (by rw [hb.cell]; exact hv))

theorem cell_ext {w w' : World} {a : Addr} {v : Value} (h : w.cell? a = some v) (hE : Ext w w') : w'.cell? a = some v := (hE.cell (World.block_lt_of_cell? w a h)).trans h

def bor (k : IntKind) (a b : Int) : Int := k.wrap ((BitVec.ofInt k.bits a ||| BitVec.ofInt k.bits b).toNat : Int)

theorem u64_of {x : Int} (h0 : 0 ≤ x) (h1 : x < 18446744073709551616) : IntKind.u64.wrap x = x := by
  unfold IntKind.wrap
  simp [IntKind.signed, IntKind.bits] <;> omega
theorem i64_of {x : Int} (h0 : -9223372036854775808 ≤ x) (h1 : x < 9223372036854775808) : IntKind.i64.wrap x = x := by
  unfold IntKind.wrap
  simp [IntKind.signed, IntKind.bits] <;> omega
theorem u8_of {x : Int} (h0 : 0 ≤ x) (h1 : x < 256) : IntKind.u8.wrap x = x := by
  unfold IntKind.wrap
  simp [IntKind.signed, IntKind.bits] <;> omega
theorem u8_mod (x : Int) : IntKind.u8.wrap x = x % 256 := by
  unfold IntKind.wrap
  simp [IntKind.signed, IntKind.bits]
theorem u64_mod (x : Int) : IntKind.u64.wrap x = x % 18446744073709551616 := by
  unfold IntKind.wrap
  simp [IntKind.signed, IntKind.bits]

/-- A word moved up by a byte, and a byte put behind it. -/
theorem bor_byte {x : Int} {c : Nat} (h0 : 0 ≤ x) (h1 : x < 72057594037927936) (hc : c < 256) : bor .u64 (IntKind.u64.wrap (x * 2 ^ 8)) (IntKind.u64.wrap (c : Int)) = x * 256 + c := by
  obtain ⟨n, rfl⟩ := Int.eq_ofNat_of_zero_le h0
  rw [u64_of (by omega) (by omega), u64_of (by omega) (by omega)]
  unfold bor
  have e : (BitVec.ofInt IntKind.u64.bits ((n : Int) * 2 ^ 8) ||| BitVec.ofInt IntKind.u64.bits (c : Int)).toNat = n * 256 + c := by
    have hb : IntKind.u64.bits = 64 := rfl
    rw [hb]
    rw [BitVec.toNat_or]
    have e1 : (BitVec.ofInt 64 ((n : Int) * 2 ^ 8)).toNat = n * 256 := by
      rw [BitVec.toNat_ofInt]; omega
    have e2 : (BitVec.ofInt 64 (c : Int)).toNat = c := by
      rw [BitVec.toNat_ofInt]; omega
    rw [e1, e2]
    have := Nat.shiftLeft_add_eq_or_of_lt (i := 8) (b := c) (by omega) n
    rw [Nat.shiftLeft_eq] at this
    rw [← this]
  rw [e, u64_of (by omega) (by omega)]
  omega

end
end Go.PM
