/- Rows of slices that may be written into: what they hold is not told any more. -/
import Derived.Test.YthmajhdemooecaaXI
import Derived.Test.YthmajhdemooecaaX8
namespace Go.PM
set_option linter.unusedVariables false
open Go.RowKit

/-- A slice of bytes that is a row of its own, and not too long to grow. -/
def Spare (eb : TypeId) (w : World) (S : Nat → Prop) (u : Value) : Prop := ∃ n, n ≤ 137438953469 ∧ Rm eb w S u n
/-- Either a slice of the block g, or a row of its own. -/
def SpareX (eb : TypeId) (g cap : Nat) (w : World) (S : Nat → Prop) (u : Value) : Prop := (∃ n, n ≤ 137438953469 ∧ n ≤ cap ∧ u = .slice (some ⟨g, 0, none⟩) n cap) ∨ Spare eb w S u

/-- A row whose elements' last cells are slices of bytes of their own. -/
def Ck.lrow (eb e : TypeId) (sz : Nat) (v : Value) (n : Nat) : Ck where
  h := fun w S => ∃ cs, (Ck.row e sz v n cs).h w S ∧ ∀ j u, j < n → cs[j * sz + (sz - 1)]? = some u → Spare eb w (fun k => S k ∧ v.ownBlock ≠ some k) u
  loc := fun ⟨cs, h1, h2⟩ hk => ⟨cs, (Ck.row e sz v n cs).loc h1 hk, fun j u hj hu => let ⟨m, h3, h4⟩ := h2 j u hj hu; ⟨m, h3, h4.loc fun k hs hl => hk k hs.1 hl⟩⟩
  trim := fun ⟨cs, h1, h2⟩ => ⟨cs, (Ck.row e sz v n cs).trim h1, fun j u hj hu => let ⟨m, h3, h4⟩ := h2 j u hj hu; ⟨m, h3, h4.trim.mono fun k hk => ⟨⟨hk.1.1, hk.2⟩, hk.1.2⟩⟩⟩
def Ck.lrowX (eb g cap : Nat) (e : TypeId) (sz : Nat) (v : Value) (n : Nat) : Ck where
  h := fun w S => ∃ cs, (Ck.row e sz v n cs).h w S ∧ v.ownBlock ≠ some g ∧ ∀ j u, j < n → cs[j * sz + (sz - 1)]? = some u → SpareX eb g cap w (fun k => S k ∧ v.ownBlock ≠ some k) u
  loc := fun ⟨cs, h1, h0, h2⟩ hk => ⟨cs, (Ck.row e sz v n cs).loc h1 hk, h0, fun j u hj hu => (h2 j u hj hu).imp id fun ⟨m, h3, h4⟩ => ⟨m, h3, h4.loc fun k hs hl => hk k hs.1 hl⟩⟩
  trim := fun ⟨cs, h1, h0, h2⟩ => ⟨cs, (Ck.row e sz v n cs).trim h1, h0, fun j u hj hu => (h2 j u hj hu).imp id fun ⟨m, h3, h4⟩ => ⟨m, h3, h4.trim.mono fun k hk => ⟨⟨hk.1.1, hk.2⟩, hk.1.2⟩⟩⟩

theorem Chg.refl (w : World) (S : Nat → Prop) : Chg w w S := ⟨rfl, rfl, rfl, Nat.le_refl _, fun _ _ _ => rfl⟩

section
variable {α : Type}

theorem HS.lrow {w0 w : World} {L : List Ck} {d : Ty α} {eb e : TypeId} {v : Value} {xs : List α} (h : HS w0 w (Ck.own d e v xs :: L)) (hz : 0 < w0.heap.size) (hsz : 0 < d.sz)
    (hd : ∀ (S : Nat → Prop) x c, x ∈ xs → d.K w S x c → ¬ S 0 → ∀ u, c[d.sz - 1]? = some u → Spare eb w S u) : HS w0 w (Ck.lrow eb e d.sz v xs.length :: L) := by
  obtain ⟨S, ⟨cs, h1, h2⟩, hb, hup⟩ := h.opn
  refine hup w _ S ⟨cs, h1, fun j u hj hu => ?_⟩ (fun k hk => .inl hk) (Chg.refl _ _)
  obtain ⟨c, h3, h4⟩ := h2 j _ (List.getElem?_eq_getElem hj)
  have hlen := d.len h3
  obtain ⟨u', hu'⟩ : ∃ u', c[d.sz - 1]? = some u' := ⟨_, List.getElem?_eq_getElem (by omega)⟩
  have h5 := h4 _ _ hu'
  rw [hu] at h5
  injection h5 with h5
  subst h5
  exact hd _ _ _ (List.getElem_mem hj) h3 (fun h0 => by have := (hb 0 h0.1).1; omega) u hu'

/-- One element: what it leads to is taken out, and put back after. -/
theorem HS.lrow_at {w0 w : World} {L : List Ck} {eb e : TypeId} {sz n j : Nat} {v : Value} (h : HS w0 w (Ck.lrow eb e sz v n :: L)) (hj : j < n) (hsz : 0 < sz) :
    ∃ g cap cur u, v = .slice (some ⟨g, 0, none⟩) n cap ∧ Blk w g e cur ∧ n ≤ cap ∧ cur.size = cap * sz ∧ cur[j * sz + (sz - 1)]? = some u ∧
      (u = .slice none 0 0 ∨ ∃ g2 n2 cap2 cur2, u = .slice (some ⟨g2, 0, none⟩) n2 cap2 ∧ n2 ≤ cap2 ∧ cap2 ≤ maxLen ∧ n2 ≤ 137438953469 ∧ cur2.size = cap2 ∧
        HS w0 w (Ck.blk g2 eb cur2 :: Ck.lrowX eb g2 cap2 e sz v n :: L) ∧ ∀ w' cur3, cur3.size = cap2 → HS w0 w' (Ck.blk g2 eb cur3 :: Ck.lrowX eb g2 cap2 e sz v n :: L) → HS w0 w' (Ck.lrow eb e sz v n :: L)) := by
  obtain ⟨S, ⟨cs, hrow, hel⟩, hb, hup⟩ := h.opn
  obtain ⟨⟨hcl, hr⟩, hS⟩ := hrow
  rcases hr with ⟨-, h0⟩ | ⟨g, cap, cur, rfl, -, hg, hnc, hcm, hcu, htake⟩
  · omega
  have hmul : j * sz + (sz - 1) < n * sz := by
    have : (j + 1) * sz ≤ n * sz := Nat.mul_le_mul_right _ (by omega)
    rw [Nat.add_mul, Nat.one_mul] at this
    omega
  obtain ⟨u, hu⟩ : ∃ u, cs[j * sz + (sz - 1)]? = some u := ⟨_, List.getElem?_eq_getElem (by omega)⟩
  have hcu' : cur[j * sz + (sz - 1)]? = some u := by
    rw [← htake, List.getElem?_take, if_pos hmul] at hu
    simpa using hu
  refine ⟨g, cap, cur, u, rfl, hg, hnc, hcu, hcu', ?_⟩
  obtain ⟨n2, hn2, cs2, ⟨hcl2, hr2⟩, hS2⟩ := hel j u hj hu
  rcases hr2 with ⟨h1, -⟩ | ⟨g2, cap2, cur2, rfl, -, hg2, hnc2, hcm2, hcu2, -⟩
  · exact .inl h1
  have hg2S := hS2 g2 rfl
  have hne : g2 ≠ g := fun he => hg2S.2 (by rw [he]; rfl)
  refine .inr ⟨g2, n2, cap2, cur2, rfl, hnc2, hcm2, hn2, by omega, ?_, ?_⟩
  · refine HS.split (hup w _ S ⟨fun k => k = g2, fun k => S k ∧ k ≠ g2, ⟨hg2, rfl⟩, ⟨cs, ⟨⟨hcl, .inr ⟨g, cap, cur, rfl, Nat.zero_le _, hg, hnc, hcm, hcu, htake⟩⟩, fun b hb => ⟨hS b hb, fun he => hne (by injection hb with hb; exact (hb.trans he).symm)⟩⟩, ?_, fun i u' hi hu' => ?_⟩, fun k hk => ?_, fun k hk => hk.1, fun k hk hk' => hk'.2 hk⟩ (fun k hk => .inl hk) (Chg.refl _ _))
    · intro he; injection he with he; exact hne he.symm
    · obtain ⟨m, hm, c3, ⟨hcl3, hr3⟩, hS3⟩ := hel i u' hi hu'
      rcases hr3 with ⟨h1, h2⟩ | ⟨g3, cap3, cur3, rfl, hz3, hg3, hnc3, hcm3, hcu3, ht3⟩
      · exact .inr ⟨m, hm, c3, ⟨hcl3, .inl ⟨h1, h2⟩⟩, fun b hb => by rw [h1] at hb; simp [Value.ownBlock] at hb⟩
      · by_cases he : g3 = g2
        · subst he
          rw [hg2] at hg3
          injection hg3 with hg3
          injection hg3 with hg3
          subst hg3
          exact .inl ⟨m, hm, by omega, by congr; omega⟩
        · exact .inr ⟨m, hm, c3, ⟨hcl3, .inr ⟨g3, cap3, cur3, rfl, hz3, hg3, hnc3, hcm3, hcu3, ht3⟩⟩, fun b hb => by
            have := hS3 b hb
            injection hb with hb
            subst hb
            exact ⟨⟨this.1, he⟩, this.2⟩⟩
    · subst hk; exact hg2S.1
  · intro w' cur3 hc3 H
    refine H.merge.map fun S' hS' => ?_
    obtain ⟨S1, S2, ⟨hb3, hs1⟩, ⟨c4, hrow4, hne4, hel4⟩, hi1, hi2, hdis⟩ := hS'
    refine ⟨c4, ⟨hrow4.1, fun b hb => hi2 b (hrow4.2 b hb)⟩, fun i u' hi hu' => ?_⟩
    rcases hel4 i u' hi hu' with ⟨m, hm, hmc, rfl⟩ | ⟨m, hm, hrm⟩
    · refine ⟨m, hm, cur3.toList.take m, ⟨by rw [List.length_take, Array.length_toList]; omega, .inr ⟨g2, cap2, cur3, rfl, Nat.zero_le _, hb3, hmc, hcm2, by omega, by rw [Nat.mul_one]⟩⟩, fun b hb => ?_⟩
      injection hb with hb
      subst hb
      exact ⟨hi1 _ hs1, fun he => hne4 he⟩
    · exact ⟨m, hm, hrm.mono fun k hk => ⟨hi2 k hk.1, hk.2⟩⟩

/-- One element is forgotten. -/
theorem HS.lrow_nil {w0 w : World} {L : List Ck} {eb e : TypeId} {n j g cap : Nat} {cur : Array Value} (h : HS w0 w (Ck.lrow eb e 1 (.slice (some ⟨g, 0, none⟩) n cap) n :: L)) (hb : Blk w g e cur) (hj : j < n) :
    HS w0 (putBlk w g e (cur.setIfInBounds (0 + j * 1) (.slice none 0 0))) (Ck.lrow eb e 1 (.slice (some ⟨g, 0, none⟩) n cap) n :: L) := by
  obtain ⟨S, ⟨cs, hrow, hel⟩, hbd, hup⟩ := h.opn
  obtain ⟨⟨hcl, hr⟩, hS⟩ := hrow
  rcases hr with ⟨h0, -⟩ | ⟨g', cap', cur', he, -, hg, hnc, hcm, hcu, htake⟩
  · cases h0
  simp only [Value.slice.injEq, Option.some.injEq, Addr.mk.injEq, and_true, true_and] at he
  obtain ⟨rfl, rfl⟩ := he
  have hB : w.heap[g]? = some (.cells cur e (0, 0)) := hb
  rw [hg] at hB
  injection hB with hB
  injection hB with hB
  subst hB
  have hSg := hS g rfl
  refine hup _ _ S ⟨(cur'.setIfInBounds (0 + j * 1) (.slice none 0 0)).toList.take (n * 1), ⟨⟨?_, .inr ⟨g, cap, _, rfl, Nat.zero_le _, putBlk_blk hb, hnc, hcm, by rw [Array.size_setIfInBounds]; exact hcu, rfl⟩⟩, hS⟩, fun i u hi hu => ?_⟩ (fun k hk => .inl hk) (Chg.put.mono fun k hk => by subst hk; exact hSg)
  · rw [List.length_take, Array.length_toList, Array.size_setIfInBounds]; omega
  · rw [List.getElem?_take, if_pos (by omega)] at hu
    rw [Array.getElem?_toList, Array.getElem?_setIfInBounds] at hu
    split at hu
    · split at hu
      · injection hu with hu
        subst hu
        exact ⟨0, by omega, Rm.nil⟩
      · cases hu
    · have hu' : cs[i * 1 + (1 - 1)]? = some u := by
        rw [← htake, List.getElem?_take, if_pos (by omega)]
        simpa using hu
      obtain ⟨m, hm, hrm⟩ := hel i u hi hu'
      exact ⟨m, hm, hrm.loc fun k hk hl => putBlk_other fun he => hk.2 (by rw [he]; rfl)⟩

theorem HS.lrow_form {w0 w : World} {L : List Ck} {eb e : TypeId} {sz n : Nat} {v : Value} (h : HS w0 w (Ck.lrow eb e sz v n :: L)) : ∃ A c, v = .slice A n c := by
  obtain ⟨S, ⟨cs, h1, -⟩, -⟩ := h.nth 0 rfl
  rcases h1.1.2 with ⟨rfl, hn⟩ | ⟨g, cap, cur, rfl, -⟩
  · subst hn; exact ⟨_, _, rfl⟩
  · exact ⟨_, _, rfl⟩
end
end Go.PM
