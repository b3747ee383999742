/- Rows whose elements are written one by one; one cell stored; a copy of a row. -/
import Derived.Test.YthmajhdemooecaaX4
namespace Go.PM
set_option linter.unusedVariables false
set_option linter.unusedSimpArgs false
open Go.RowKit

section
variable {α β : Type} {P : Program}

theorem HS.map {w0 w : World} {L : List Ck} {c c' : Ck} (h : HS w0 w (c :: L)) (hc : ∀ S, c.h w S → c'.h w S) : HS w0 w (c' :: L) := by
  obtain ⟨h0, S, h1, h2, h3⟩ := h
  exact ⟨h0, S, hc S h1, h2, h3⟩

/-- A store of one cell. -/
theorem op_store1 {a : Act} {o : Oper} {t T : TypeId} {b off : Nat} {w : World} {v : Value} {cs : Array Value} (ho : storeArg a o = some (t, .pointer (some ⟨b, off, none⟩), v))
    (hb : Blk w b T cs) (hs : sizeT P t = some 1) (hl : off < cs.size) (hc : v.cells = #[v]) (h1 : v.oneCell' = true) : (execOp a.eval o).run P w = .ok .skip (putBlk w b T (cs.setIfInBounds off v)) := by
  refine op_store ho hb ?_
  unfold stv
  rw [hs]
  simp only [hc]
  rw [if_pos ⟨by simp, by omega, by simp [h1]⟩]
  rfl

theorem op_indexN {a : Act} {o : Oper} {t e : TypeId} {sz b off n c : Nat} {k : IntKind} {i : Nat} {w : World} (ho : idxArg a o = some (t, .slice (some ⟨b, off, none⟩) n c, .int k (i : Int)))
    (hu : P.underlying t = some (.slice e)) (hs : sizeT P e = some sz) (h1 : i < n) :
    (execOp a.eval o).run P w = .ok (.value (.pointer (some ⟨b, off + i * sz, none⟩))) w := by
  have := op_index (P := P) (w := w) ho hu hs (by omega) (by omega)
  simpa using this

theorem wrap_nat {n : Nat} (h : n ≤ 9223372036854775807) : IntKind.i64.wrap (n : Int) = (n : Int) := by
  have : (n : Int) ≤ 9223372036854775807 := by omega
  unfold IntKind.wrap
  simp [IntKind.signed, IntKind.bits] <;> omega
theorem wrap_succ {n : Nat} (h : n < 9223372036854775807) : IntKind.i64.wrap ((n : Int) + 1) = ((n + 1 : Nat) : Int) := by
  have := wrap_nat (n := n + 1) (by omega)
  rw [← this]; rfl

namespace Ck
/-- A row whose first i elements are the call's own; the others read as they did in the world W. -/
def mix (d : Ty α) (e : TypeId) (W : World) (v : Value) (xs : List α) (i : Nat) : Ck where
  h := fun w S => ∃ cs, (row e d.sz v xs.length cs).h w S ∧ ∀ j x, xs[j]? = some x → ∃ c, (if j < i then d.K w (fun k => S k ∧ v.ownBlock ≠ some k) x c else d.K W Any x c) ∧ c.length = d.sz ∧ ∀ i u, c[i]? = some u → cs[j * d.sz + i]? = some u
  loc := fun ⟨cs, h1, h2⟩ hk => ⟨cs, (row e d.sz v _ cs).loc h1 hk, fun j x hj => by
    obtain ⟨c, h3, h4, h5⟩ := h2 j x hj
    refine ⟨c, ?_, h4, h5⟩
    split
    · rename_i hj; rw [if_pos hj] at h3; exact d.loc h3 fun k hs hl => hk k hs.1 hl
    · rename_i hj; rw [if_neg hj] at h3; exact h3⟩
  trim := fun ⟨cs, h1, h2⟩ => ⟨cs, (row e d.sz v _ cs).trim h1, fun j x hj => by
    obtain ⟨c, h3, h4, h5⟩ := h2 j x hj
    refine ⟨c, ?_, h4, h5⟩
    split
    · rename_i hj; rw [if_pos hj] at h3; exact d.mono (d.trim h3) fun k hk => ⟨⟨hk.1.1, hk.2⟩, hk.1.2⟩
    · rename_i hj; rw [if_neg hj] at h3; exact h3⟩
end Ck

theorem HS.mix_own {w0 w : World} {L : List Ck} {d : Ty α} {e : TypeId} {W : World} {v : Value} {xs : List α} {i : Nat} (h : HS w0 w (Ck.mix d e W v xs i :: L)) (hi : xs.length ≤ i) : HS w0 w (Ck.own d e v xs :: L) := by
  refine h.map fun S ⟨cs, h1, h2⟩ => ⟨cs, h1, fun j x hj => ?_⟩
  obtain ⟨c, h3, h4, h5⟩ := h2 j x hj
  rw [if_pos (by have := (List.getElem?_eq_some_iff.1 hj).1; omega)] at h3
  exact ⟨c, h3, h5⟩

theorem HS.mix_form {w0 w : World} {L : List Ck} {d : Ty α} {e : TypeId} {W : World} {v : Value} {xs : List α} {i : Nat} (h : HS w0 w (Ck.mix d e W v xs i :: L)) : ∃ A c, v = .slice A xs.length c := by
  obtain ⟨S, ⟨cs, ⟨h1, h2⟩, h3⟩, -⟩ := h.nth 0 rfl
  rcases h1.2 with ⟨rfl, hn⟩ | ⟨g, cap, cur, rfl, -⟩
  · exact ⟨none, 0, by rw [hn]⟩
  · exact ⟨_, _, rfl⟩

theorem HS.own_form {w0 w : World} {L : List Ck} {d : Ty α} {e : TypeId} {v : Value} {xs : List α} (h : HS w0 w (Ck.own d e v xs :: L)) : ∃ A c, v = .slice A xs.length c := (h.sl 0 rfl).form

/-- What such a row looks like at its next element. -/
theorem HS.mix_at {w0 w : World} {L : List Ck} {d : Ty α} {e : TypeId} {W : World} {v : Value} {xs : List α} {i : Nat} {x : α} (h : HS w0 w (Ck.mix d e W v xs i :: L)) (hx : xs[i]? = some x) :
    ∃ b cap cur c, v = .slice (some ⟨b, 0, none⟩) xs.length cap ∧ Blk w b e cur ∧ d.K W Any x c ∧ c.length = d.sz ∧ (∀ k u, c[k]? = some u → cur[i * d.sz + k]? = some u) ∧ (i + 1) * d.sz ≤ cur.size := by
  obtain ⟨S, ⟨cs, ⟨h1, h2⟩, h3⟩, -⟩ := h.nth 0 rfl
  have hlt := (List.getElem?_eq_some_iff.1 hx).1
  rcases h1.2 with ⟨rfl, hn⟩ | ⟨g, cap, cur, rfl, -, hg, hnc, hcm, hcs, htake⟩
  · omega
  · obtain ⟨c, h4, h5, h6⟩ := h3 i x hx
    rw [if_neg (Nat.lt_irrefl _)] at h4
    refine ⟨g, cap, cur, c, rfl, hg, h4, h5, fun k u hk => ?_, ?_⟩
    · have := h6 k u hk
      rw [← htake, List.getElem?_take] at this
      split at this
      · simpa using this
      · cases this
    · rw [hcs]; exact Nat.mul_le_mul_right _ (by omega)

/-- Its next element is written. -/
theorem HS.mix_put {w0 w : World} {L : List Ck} {d : Ty α} {e : TypeId} {W : World} {xs : List α} {i : Nat} {x : α} {b cap : Nat} {cur cur' : Array Value} {c' : List Value}
    (h : HS w0 w (Ck.mix d e W (.slice (some ⟨b, 0, none⟩) xs.length cap) xs i :: Ck.dat d c' x :: L)) (hx : xs[i]? = some x) (hb : Blk w b e cur) (hsz : cur'.size = cur.size)
    (hout : ∀ k, (k < i * d.sz ∨ (i + 1) * d.sz ≤ k) → cur'[k]? = cur[k]?) (hin : ∀ k u, c'[k]? = some u → cur'[i * d.sz + k]? = some u) :
    HS w0 (putBlk w b e cur') (Ck.mix d e W (.slice (some ⟨b, 0, none⟩) xs.length cap) xs (i + 1) :: L) := by
  obtain ⟨S, ⟨S1, S2, ⟨cs, ⟨h1, h2⟩, h3⟩, h4, h1S, h2S, hdis⟩, hbd, hup⟩ := h.merge.opn
  have hb1 : S1 b := h2 b rfl
  have hlt := (List.getElem?_eq_some_iff.1 hx).1
  rcases h1.2 with ⟨hv, _⟩ | ⟨g, cap', cur0, hv, -, hg, hnc, hcm, hcs, htake⟩
  · cases hv
  injection hv with hv1 hv2 hv3
  injection hv1 with hv1
  injection hv1 with hv1 _ _
  subst hv1 hv3
  have hcur : cur0 = cur := by
    have := hg.symm.trans hb
    injection this with this
    injection this
  subst hcur
  refine hup _ _ S ⟨cur'.toList.take (xs.length * d.sz), ⟨⟨?_, .inr ⟨b, cap, cur', rfl, Nat.zero_le _, putBlk_blk hb, hnc, hcm, by omega, rfl⟩⟩, fun k hk => ?_⟩, fun j y hj => ?_⟩ (fun k hk => .inl hk) (Chg.put.mono fun k hk => by subst hk; exact h1S _ hb1)
  · have : xs.length * d.sz ≤ cap * d.sz := Nat.mul_le_mul_right _ hnc
    simp; omega
  · simp [Value.ownBlock] at hk; subst hk; exact h1S _ hb1
  · have hjl := (List.getElem?_eq_some_iff.1 hj).1
    have hother : ∀ k, S k → k ≠ b → (putBlk w b e cur').heap[k]? = w.heap[k]? := fun k _ hk => putBlk_other hk
    by_cases hji : j = i
    · subst hji
      rw [hx] at hj
      injection hj with hj
      subst hj
      have hcl := d.len h4
      refine ⟨c', ?_, hcl, fun k u hk => ?_⟩
      · rw [if_pos (by omega)]
        have hne : ∀ k, S2 k → k ≠ b := fun k hk he => hdis b hb1 (he ▸ hk)
        exact d.mono (d.loc h4 fun k hk _ => putBlk_other (hne k hk)) fun k hk => ⟨h2S k hk, by simp [Value.ownBlock]; exact fun he => hne k hk he.symm⟩
      · have hk' := (List.getElem?_eq_some_iff.1 hk).1
        have hlt2 : j * d.sz + k < xs.length * d.sz := by
          have : (j + 1) * d.sz ≤ xs.length * d.sz := Nat.mul_le_mul_right _ (by omega)
          rw [Nat.add_mul] at this; omega
        rw [List.getElem?_take, if_pos hlt2]
        simpa using hin k u hk
    · obtain ⟨c, h5, h6, h7⟩ := h3 j y hj
      refine ⟨c, ?_, h6, fun k u hk => ?_⟩
      · by_cases hjlt : j < i
        · rw [if_pos hjlt] at h5
          rw [if_pos (by omega)]
          exact d.mono (d.loc h5 fun k hk _ => putBlk_other (fun he => hk.2 (by rw [he]; rfl))) fun k hk => ⟨h1S k hk.1, hk.2⟩
        · rw [if_neg hjlt] at h5
          rw [if_neg (by omega)]
          exact h5
      · have hk' := (List.getElem?_eq_some_iff.1 hk).1
        have h8 := h7 k u hk
        rw [← htake, List.getElem?_take] at h8
        rw [List.getElem?_take]
        split at h8
        · rename_i hlt2
          rw [if_pos hlt2]
          have hrange : j * d.sz + k < i * d.sz ∨ (i + 1) * d.sz ≤ j * d.sz + k := by
            rcases Nat.lt_or_ge j i with h9 | h9
            · left
              have : (j + 1) * d.sz ≤ i * d.sz := Nat.mul_le_mul_right _ (by omega)
              rw [Nat.add_mul] at this; omega
            · right
              have : (i + 1) * d.sz ≤ j * d.sz := Nat.mul_le_mul_right _ (by omega)
              omega
          have := hout _ hrange
          rw [Array.getElem?_toList] at h8 ⊢
          rw [this]; exact h8
        · cases h8

/-- append(empty, ys..): the copy's elements are the old ones. -/
theorem HS.app_copy {w0 w W : World} {L : List Ck} {d : Ty α} {t e : TypeId} {v : Value} {ys : List α} (h : HS w0 w (Ck.own d e v ([] : List α) :: L)) (hT : chkRow P t e d.sz = true)
    {y : Value} (hy : Sl d W Any ys y) (hW : Ext W w) (hn : ys.length ≤ 137438953472) :
    ∃ v' w', (∀ ty, (Builtin.append_ #[t, t] ty #[v, y]).run P w = .ok v' w') ∧ HS w0 w' (Ck.mix d e W v' ys 0 :: L) := by
  obtain ⟨S, ⟨cs, ⟨ho, hS⟩, hel⟩, hb', hup⟩ := h.opn
  obtain ⟨i, z, ht, hi, hz, hsize, hzs, hsz, hby⟩ := chkRow_spec hT
  have hcs : cs = [] := List.length_eq_zero_iff.1 (by simpa using ho.1)
  subst hcs
  obtain ⟨A, c, rfl, h2, h3, h4, h5⟩ := hy
  have done : ∀ (ad : Addr) (news : List Value), A = some ad → news.length = ys.length * d.sz → (∀ u ∈ news, u.oneCell' = true) → (∀ j u, news[j]? = some u → w.cell? (ad.add j) = some u) →
      (∀ j x, ys[j]? = some x → ∃ c, d.K W Any x c ∧ ∀ i u, c[i]? = some u → news[j * d.sz + i]? = some u) →
      ∃ v' w', (∀ ty, (Builtin.append_ #[t, t] ty #[v, .slice A ys.length c]).run P w = .ok v' w') ∧ HS w0 w' (Ck.mix d e W v' ys 0 :: L) := by
    intro ad news hA hl h1 hnews hn2
    subst hA
    obtain ⟨v', w', hr, ho', hg, -, hat⟩ := run_append_own_at (P := P) w 0 t 0 e i z d.sz i.bytes ht hi hz hsize rfl hzs hsz v 0 [] ho ad ys.length c news hl hnews h1
      (by unfold maxLen; omega) (by calc (0 + ys.length) * i.bytes ≤ 137438953472 * 1024 := Nat.mul_le_mul (by omega) hby
                                     _ ≤ _ := by decide) (Nat.zero_le _)
    refine ⟨v', w', fun ty => hr, hup w' _ (fun k => S k ∨ k = w.heap.size) ⟨news, ⟨by simpa using ho', fun k hk => ?_⟩, ?_⟩ (fun k hk => hk.imp id (by omega)) ((Chg.of_grown hg).mono fun k hk => hS k hk)⟩
    · rcases hat with hat | hat
      · exact .inl (hS k (hat ▸ hk))
      · rw [hat] at hk; injection hk with hk; exact .inr hk.symm
    · intro j y hj
      obtain ⟨c', h6, h7⟩ := hn2 _ y hj
      exact ⟨c', by rw [if_neg (Nat.not_lt_zero _)]; exact h6, d.len h6, h7⟩
  cases A with
  | none =>
    have hc : c = 0 := h4 rfl
    have hys : ys = [] := List.length_eq_zero_iff.1 (by omega)
    subst hys hc
    refine ⟨v, w, fun ty => run_append_owned_none (P := P) w 0 t ty e i d.sz ht hi v _ [] ho, ?_⟩
    exact h.map fun S' ⟨cs, g1, g2⟩ => ⟨cs, g1, fun j x hj => by simp at hj⟩
  | some ad =>
    rcases Nat.eq_zero_or_pos ys.length with h0 | hp
    · have hys : ys = [] := List.length_eq_zero_iff.1 h0
      subst hys
      exact done ad [] rfl (by simp) (by simp) (by simp) (by simp)
    · obtain ⟨b, o, h6, h7, h8, h9⟩ := h5 hp
      injection h6 with h6
      subst h6
      obtain ⟨news, g1, g2, g3, g4⟩ := cells_of_row h9
      exact done _ news rfl g1 g2 (fun j u hj => by rw [add_off, cell_same (hW.block b h8)]; exact g3 j u hj) g4

theorem HS.mix_nil {w0 w W : World} {L : List Ck} (h : HS w0 w L) (d : Ty α) (e : TypeId) : HS w0 w (Ck.mix d e W (.slice none 0 0) ([] : List α) 0 :: L) :=
  (h.nil d e).map fun S ⟨cs, g1, g2⟩ => ⟨cs, g1, fun j x hj => by simp at hj⟩

end
end Go.PM
