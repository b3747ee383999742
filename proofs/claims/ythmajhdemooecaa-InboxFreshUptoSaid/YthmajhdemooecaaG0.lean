/- What a law is handed, opened: a reading of it gives data of a kind, and its bulk bounds the data. -/
import Derived.Test.YthmajhdemooecaaX6
import Derived.Test.YthmajhdemooecaaRows
import Derived.WalkKit
import Derived.ProofKit
import Derived.OpenShut
import Derived.JoinedCond
import Derived.Test.YthmajhdemooecaaP0
namespace Go.Proofs.Ythmajhdemooecaa
open Go.PM Go.RowKit
set_option linter.unusedVariables false
set_option linter.unusedSimpArgs false

def Opens {α : Type} (P : Program) (t : TypeId) (d : Ty α) (m : α → Nat) (q : Bool := false) : Prop :=
  ∀ {H : Type} (enc : TypeId × Value → H) (w : World) (base : Nat) (sp : Nat → Bool) (held : Bool) (fuel : Nat) (cs : List Value) (y : DataW H × List MemPlace),
    (q = true → 0 < w.heap.size) → DataW.trod enc P w base sp held fuel t cs = some y → ∃ x, d.K w Any x cs ∧ m x ≤ Rows.uptoBulk y.1

theorem bulk_pos {H : Type} (d : DataW H) : 1 ≤ Rows.uptoBulk d := by
  cases d with
  | lit l => cases l <;> simp [Rows.uptoBulk]
  | nil => simp [Rows.uptoBulk]
  | ptr d => simp [Rows.uptoBulk]
  | slice elems spare => simp [Rows.uptoBulk]
  | agg parts => simp [Rows.uptoBulk]
  | iface t d => simp [Rows.uptoBulk]
  | map entries => simp [Rows.uptoBulk]
  | held h => simp [Rows.uptoBulk]

theorem wf_wrap {k : IntKind} {n : Int} (h : (Lit.int k n).wf = true) : k.wrap n = n := by
  cases k <;> simp [Lit.wf, IntKind.min, IntKind.max, IntKind.signed, IntKind.bits] at h <;> simp [IntKind.wrap, IntKind.signed, IntKind.bits] <;> omega

section
variable {P : Program} {α β : Type}

theorem opens_int {q : Bool} {t : TypeId} {k : IntKind} (ht : P.underlying t = some (.int k)) : Opens P t (Ty.int k) (fun _ => 1) q := by
  intro H enc w base sp held fuel cs y _ h
  cases fuel with
  | zero => simp [DataW.trod] at h
  | succ n =>
    unfold DataW.trod at h
    rw [ht] at h
    split at h
    all_goals (try (cases h; done))
    all_goals (try (rename_i heq; cases heq; done))
    rename_i k1 k2 z hu
    injection hu with hu
    injection hu with hu
    subst hu
    split at h
    · rename_i hc
      obtain ⟨rfl, hwf⟩ := hc
      injection h with h
      subst h
      exact ⟨z, ⟨rfl, wf_wrap hwf⟩, bulk_pos _⟩
    · cases h

theorem opens_u8 {q : Bool} {t : TypeId} (ht : P.underlying t = some (.int .u8)) : Opens P t Ty.u8 (fun _ => 1) q := by
  intro H enc w base sp held fuel cs y _ h
  cases fuel with
  | zero => simp [DataW.trod] at h
  | succ n =>
    unfold DataW.trod at h
    rw [ht] at h
    split at h
    all_goals (try (cases h; done))
    all_goals (try (rename_i heq; cases heq; done))
    rename_i k1 k2 z hu
    injection hu with hu
    injection hu with hu
    subst hu
    split at h
    · rename_i hc
      obtain ⟨rfl, hwf⟩ := hc
      injection h with h
      subst h
      refine ⟨UInt8.ofNat z.toNat, ⟨?_, trivial⟩, bulk_pos _⟩
      have : 0 ≤ z ∧ z ≤ 255 := by simpa [Lit.wf, IntKind.min, IntKind.max, IntKind.signed, IntKind.bits] using hwf
      have e : ((UInt8.ofNat z.toNat).toNat : Int) = z := by
        rw [UInt8.toNat_ofNat']; omega
      show [Value.int .u8 z] = [Value.int .u8 ((UInt8.ofNat z.toNat).toNat : Int)]
      rw [e]
    · cases h

theorem opens_bool {q : Bool} {t : TypeId} (ht : P.underlying t = some .bool) : Opens P t Ty.bool (fun _ => 1) q := by
  intro H enc w base sp held fuel cs y _ h
  cases fuel with
  | zero => simp [DataW.trod] at h
  | succ n =>
    unfold DataW.trod at h
    rw [ht] at h
    split at h
    all_goals (try (cases h; done))
    all_goals (try (rename_i heq; cases heq; done))
    rename_i b _
    injection h with h
    subst h
    exact ⟨b, ⟨rfl, trivial⟩, bulk_pos _⟩

/-- A list's bulk: its elements', and one each. -/
def bulkL (m : α → Nat) (xs : List α) : Nat := (xs.map m).sum + 1

theorem bulkAll_append {H : Type} (a b : List (DataW H)) : Rows.uptoBulkAll (a ++ b) = Rows.uptoBulkAll a + Rows.uptoBulkAll b := by
  induction a with
  | nil => simp [Rows.uptoBulkAll]
  | cons x a ih => simp only [List.cons_append, Rows.uptoBulkAll, ih]; omega

theorem mapM_range_some {γ : Type} (f : Nat → Option γ) : ∀ (n : Nat) (l : List γ), (List.range n).mapM f = some l → l.length = n ∧ ∀ i, i < n → ∃ y, l[i]? = some y ∧ f i = some y := by
  intro n
  induction n with
  | zero => intro l h; simp at h; subst h; simp
  | succ n ih =>
    intro l h
    rw [List.range_succ, List.mapM_append] at h
    simp only [Option.bind_eq_bind, Option.pure_def] at h
    rw [Option.bind_eq_some_iff] at h
    obtain ⟨a, ha, h⟩ := h
    rw [Option.bind_eq_some_iff] at h
    obtain ⟨b, hb, h⟩ := h
    injection h with h
    subst h
    obtain ⟨h1, h2⟩ := ih a ha
    simp only [List.mapM_cons, List.mapM_nil, Option.pure_def, Option.bind_eq_bind] at hb
    rw [Option.bind_eq_some_iff] at hb
    obtain ⟨z, hz, hb⟩ := hb
    simp at hb
    subst hb
    refine ⟨by simp [h1], fun i hi => ?_⟩
    rcases Nat.lt_or_ge i n with hlt | hge
    · obtain ⟨y, h3, h4⟩ := h2 i hlt
      exact ⟨y, by rw [List.getElem?_append_left (by omega)]; exact h3, h4⟩
    · have : i = n := by omega
      subst this
      exact ⟨z, by rw [List.getElem?_append_right (by omega), h1]; simp, hz⟩

theorem cells_some {w : World} {base : Nat} {a : Addr} {n : Nat} {cs : List Value} (h : w.cells? base a n = some cs) : cs.length = n ∧ ∀ i, i < n → w.cell? (a.add i) = cs[i]? := by
  unfold World.cells? at h
  split at h
  · obtain ⟨h1, h2⟩ := mapM_range_some _ n cs h
    exact ⟨h1, fun i hi => let ⟨y, h3, h4⟩ := h2 i hi; by rw [h3, h4]⟩
  · cases h

theorem opens_slice {q : Bool} {t e : TypeId} {d : Ty α} {m : α → Nat} (ht : P.underlying t = some (.slice e)) (hs : P.cellsOf e = d.sz) (hpos : 0 < d.sz) (he : Opens P e d m true) : Opens P t (Ty.slice d) (bulkL m) q := by
  intro H enc w base sp held fuel cs y hq h
  cases fuel with
  | zero => simp [DataW.trod] at h
  | succ n =>
    unfold DataW.trod at h
    rw [ht] at h
    split at h
    all_goals (try (cases h; done))
    all_goals (try (rename_i heq; cases heq; done))
    · injection h with h
      subst h
      exact ⟨[], ⟨_, rfl, Sl.nil _ _ _⟩, bulk_pos _⟩
    · rename_i e' a len cap hu
      injection hu with hu
      injection hu with hu
      subst hu
      dsimp only at h
      split at h
      · rename_i hc
        rw [Option.bind_eq_some_iff] at h
        obtain ⟨elems, hel, h⟩ := h
        rw [Option.map_eq_some_iff] at h
        obtain ⟨rest, hrest, h⟩ := h
        subst h
        obtain ⟨hlen, hget⟩ := mapM_range_some _ len elems hel
        -- the elements' data
        have hone : ∀ i, i < len → ∃ x cs', d.K w Any x cs' ∧ (∃ y, elems[i]? = some y ∧ m x ≤ Rows.uptoBulk y.1) ∧ cs'.length = d.sz ∧ ∀ j, j < d.sz → w.cell? ((a.add (i * d.sz)).add j) = cs'[j]? := by
          intro i hi
          obtain ⟨y, h1, h2⟩ := hget i hi
          rw [Option.bind_eq_some_iff] at h2
          obtain ⟨cs', h3, h4⟩ := h2
          rw [hs] at h3
          obtain ⟨h5, h6⟩ := cells_some h3
          obtain ⟨x, h7, h8⟩ := he enc w base sp held n cs' y (fun _ => by
            have h9 := h6 0 hpos
            rw [List.getElem?_eq_getElem (by omega)] at h9
            exact Nat.lt_of_le_of_lt (Nat.zero_le _) (World.block_lt_of_cell? w _ h9)) h4
          exact ⟨x, cs', h7, ⟨y, h1, h8⟩, h5, h6⟩
        have hall : ∀ k, k ≤ len → ∃ xs : List α, xs.length = k ∧ (∀ i x, xs[i]? = some x → ∃ cs', d.K w Any x cs' ∧ cs'.length = d.sz ∧ ∀ j, j < d.sz → w.cell? ((a.add (i * d.sz)).add j) = cs'[j]?) ∧
            (xs.map m).sum ≤ Rows.uptoBulkAll ((elems.map (·.1)).take k) := by
          intro k
          induction k with
          | zero => intro _; exact ⟨[], rfl, by simp, by simp [Rows.uptoBulkAll]⟩
          | succ k ih =>
            intro hk
            obtain ⟨xs, h1, h2, h3⟩ := ih (by omega)
            obtain ⟨x, cs', h4, ⟨y, h5, h6⟩, h7, h8⟩ := hone k (by omega)
            refine ⟨xs ++ [x], by simp [h1], fun i z hz => ?_, ?_⟩
            · rcases Nat.lt_or_ge i xs.length with hlt | hge
              · rw [List.getElem?_append_left hlt] at hz; exact h2 i z hz
              · have : i = k := by
                  have := (List.getElem?_eq_some_iff.1 hz).1
                  simp at this; omega
                subst this
                rw [List.getElem?_append_right (by omega), h1] at hz
                simp at hz; subst hz
                exact ⟨cs', h4, h7, h8⟩
            · have hkl : k < (elems.map (·.1)).length := by simp [hlen]; omega
              rw [List.take_succ_eq_append_getElem hkl, bulkAll_append]
              have : (elems.map (·.1))[k] = y.1 := by
                rw [List.getElem_map]
                have := List.getElem?_eq_some_iff.1 h5
                rw [this.2]
              rw [this]
              simp [Rows.uptoBulkAll]
              omega
        obtain ⟨xs, h1, h2, h3⟩ := hall len (Nat.le_refl _)
        have htake : (elems.map (·.1)).take len = elems.map (·.1) := List.take_of_length_le (by simp [hlen])
        rw [htake] at h3
        refine ⟨xs, ⟨_, rfl, some a, cap, by rw [h1], by omega, hc.2.2, (fun h => by cases h), fun hp => ?_⟩, ?_⟩
        · -- the row
          rw [h1] at hp
          obtain ⟨x, hx⟩ : ∃ x, xs[0]? = some x := ⟨_, List.getElem?_eq_getElem (by omega)⟩
          obtain ⟨cs', h4, h5, h6⟩ := h2 0 x hx
          have h7 := h6 0 hpos
          have h0 : (a.add (0 * d.sz)).add 0 = a := by simp [Addr.add]
          rw [h0] at h7
          obtain ⟨u, hu⟩ : ∃ u, cs'[0]? = some u := ⟨_, List.getElem?_eq_getElem (by omega)⟩
          rw [hu] at h7
          have hspot : a.spot = none := by
            unfold World.cell? at h7
            split at h7
            · split at h7
              · cases h7
              · rename_i hns; simpa using hns
            · cases h7
          obtain ⟨b, o, s⟩ := a
          simp only at hspot
          subst hspot
          have hblt := World.block_lt_of_cell? w _ h7
          refine ⟨b, o, rfl, trivial, hblt, fun j x hj => ?_⟩
          obtain ⟨cs2, h8, h9, h10⟩ := h2 j x hj
          refine ⟨cs2, h8, fun i v hi => ?_⟩
          have hil := (List.getElem?_eq_some_iff.1 hi).1
          have := h10 i (by omega)
          rw [add_off, add_off, hi] at this
          exact this
        · simp only [bulkL, Rows.uptoBulk]
          omega
      · cases h

/-- Fields one behind the other, from cell o on. -/
def OpensF (P : Program) (o : Nat) (fs : List Field) (d : Ty α) (m : α → Nat) (q : Bool := false) : Prop :=
  ∀ {H : Type} (enc : TypeId × Value → H) (w : World) (base : Nat) (sp : Nat → Bool) (held : Bool) (fuel : Nat) (cs : List Value) (ys : List (DataW H × List MemPlace)),
    (q = true → 0 < w.heap.size) → cs.length = o + d.sz → (fs.mapM fun f => DataW.trod enc P w base sp held fuel f.type ((cs.drop f.offset).take (P.cellsOf f.type))) = some ys → ∃ x, d.K w Any x (cs.drop o) ∧ m x ≤ Rows.uptoBulkAll (ys.map (·.1))

theorem opensF_one {q : Bool} {o : Nat} {f : Field} {d : Ty α} {m : α → Nat} (ho : f.offset = o) (hs : P.cellsOf f.type = d.sz) (h : Opens P f.type d m q) : OpensF P o [f] d m q := by
  intro H enc w base sp held fuel cs ys hq hl hm
  simp only [List.mapM_cons, List.mapM_nil, Option.pure_def, Option.bind_eq_bind] at hm
  rw [Option.bind_eq_some_iff] at hm
  obtain ⟨y, hy, hm⟩ := hm
  simp at hm
  subst hm
  rw [ho, hs, List.take_of_length_le (by simp; omega)] at hy
  obtain ⟨x, h1, h2⟩ := h enc w base sp held fuel _ y hq hy
  exact ⟨x, h1, by simp [Rows.uptoBulkAll]; exact h2⟩

theorem opensF_cons {q : Bool} {o : Nat} {f : Field} {fs : List Field} {d : Ty α} {d' : Ty β} {m : α → Nat} {m' : β → Nat} (ho : f.offset = o) (hs : P.cellsOf f.type = d.sz) (h : Opens P f.type d m q) (h' : OpensF P (o + d.sz) fs d' m' q) :
    OpensF P o (f :: fs) (Ty.pair d d') (fun x => m x.1 + m' x.2) q := by
  intro H enc w base sp held fuel cs ys hq hl hm
  simp only [List.mapM_cons, Option.pure_def, Option.bind_eq_bind] at hm
  rw [Option.bind_eq_some_iff] at hm
  obtain ⟨y, hy, hm⟩ := hm
  rw [Option.bind_eq_some_iff] at hm
  obtain ⟨ys', hys, hm⟩ := hm
  injection hm with hm
  subst hm
  rw [ho, hs] at hy
  have hl' : cs.length = o + (d.sz + d'.sz) := hl
  obtain ⟨x, h1, h2⟩ := h enc w base sp held fuel _ y hq hy
  obtain ⟨x', h3, h4⟩ := h' enc w base sp held fuel cs ys' hq (by omega) hys
  refine ⟨(x, x'), ⟨_, _, ?_, h1, h3⟩, by simp only [List.map_cons, Rows.uptoBulkAll]; omega⟩
  rw [← List.drop_drop]; exact (List.take_append_drop _ _).symm

theorem opens_struct {q : Bool} {t : TypeId} {fs : Array Field} {d : Ty α} {m : α → Nat} (ht : P.underlying t = some (.struct fs)) (hs : P.cellsOf t = d.sz) (h : OpensF P 0 fs.toList d m q) : Opens P t d m q := by
  intro H enc w base sp held fuel cs y hq hy
  cases fuel with
  | zero => simp [DataW.trod] at hy
  | succ n =>
    have hy' : (if cs.length = P.cellsOf t then (fs.toList.mapM fun f => DataW.trod enc P w base sp held n f.type ((cs.drop f.offset).take (P.cellsOf f.type))).map fun xs => (DataW.agg (xs.map (·.1)), xs.flatMap (·.2)) else none) = some y := by
      rw [← hy]
      simp [DataW.trod, ht]
    clear hy
    split at hy'
    · rename_i hc
      rw [Option.map_eq_some_iff] at hy'
      obtain ⟨ys, h1, h2⟩ := hy'
      subst h2
      obtain ⟨x, h3, h4⟩ := h enc w base sp held n cs ys hq (by rw [hc, hs]; omega) h1
      exact ⟨x, by simpa using h3, by simp only [Rows.uptoBulk]; omega⟩
    · cases hy'

theorem opens_iso {q : Bool} {t : TypeId} {d : Ty α} {m : α → Nat} (f : β → α) (g : α → β) (hfg : ∀ x, f (g x) = x) (h : Opens P t d m q) : Opens P t (Ty.iso d f) (fun y => m (f y)) q := by
  intro H enc w base sp held fuel cs y hq hy
  obtain ⟨x, h1, h2⟩ := h enc w base sp held fuel cs y hq hy
  exact ⟨g x, by show d.K w Any (f (g x)) cs; rw [hfg]; exact h1, by show m (f (g x)) ≤ _; rw [hfg]; exact h2⟩

end
end Go.Proofs.Ythmajhdemooecaa
