/- A region that draws its order and makes room that stands in no order to its calls: the room may be made in every gap. -/
import Derived.Test.YthmajhdemooecaaX6
namespace Go.PM
set_option linter.unusedVariables false
set_option linter.unusedSimpArgs false
open Go.RowKit

section
variable (P : Program)
/-- Room that is made, asked by nobody and behind nothing. -/
def isRoom (ops : Array Oper) (i : Nat) : Bool := (allocArg P (ops.getD i default)).isSome && (ops.getD i default).guard.isNone
def flt (ops : Array Oper) (i : Nat) : Bool := isRoom P ops i && (List.range ops.size).any fun j => j != i && !lightAt P ops j && !inB ops i j && !inB ops j i
def chkPairF (ops : Array Oper) (i j : Nat) : Bool :=
  inB ops i j || ((flt P ops j || lightAt P ops j || (lightAt P ops i && !flt P ops i)) && (ops.getD i default).apart ops (ops.getD j default))
def chkF (ops : Array Oper) : Bool :=
  (List.range ops.size).all fun j => chkOne ops j && (List.range j).all fun i => chkPairF P ops i j
end

def ovr (U : Nat → Prop) (w w1 : World) (k : Nat) : Prop := U k ∨ (w.heap.size ≤ k ∧ k < w1.heap.size)
def Room (P : Program) (o : Oper) (w : World) (b : Nat) : Prop := ∃ p, allocArg P o = some p ∧ Blk w b p.1 p.2.cells

section
variable {P : Program} {B : Exit → Act → World → Prop} {ops : Array Oper} {k : List Item}

theorem ovr_self (U : Nat → Prop) (w : World) : ovr U w w = U := by
  funext x; apply propext; unfold ovr
  constructor
  · rintro (h | h)
    · exact h
    · omega
  · exact .inl
theorem ovr_ovr {U : Nat → Prop} {w w1 w2 : World} (h : Ext w w1) (h' : Ext w1 w2) : ovr (ovr U w w1) w1 w2 = ovr U w w2 := by
  funext x; apply propext; unfold ovr
  have := h.size; have := h'.size
  constructor
  · rintro ((h | h) | h)
    · exact .inl h
    · exact .inr (by omega)
    · exact .inr (by omega)
  · rintro (h | h)
    · exact .inl (.inl h)
    · rcases Nat.lt_or_ge x w1.heap.size with hx | hx
      · exact .inl (.inr ⟨h.1, hx⟩)
      · exact .inr ⟨hx, h.2⟩

def OneF (P : Program) (B : Exit → Act → World → Prop) (ops : Array Oper) (i : Nat) (U : Nat → Prop) (H : Nat → World) (a : Act) (w : World) (K : (Nat → Prop) → (Nat → World) → Act → World → Prop) : Prop :=
  if flt P ops i = true then ∀ w1, Ext w w1 → ∀ b wF, ovr U w w1 b → Room P (ops.getD i default) w1 b → K (fun x => ovr U w w1 x ∧ x ≠ b) (upd H (i + 1) wF) (a.put (ops.getD i default).dst (.pointer (some ⟨b, 0, none⟩))) w1
  else if lightAt P ops i = true then One P B ops i H a w (K U)
  else ∀ w1, Ext w w1 → One P B ops i H a w1 (K (ovr U w w1))

/-- A list whose rooms may be made early. -/
def RobF (P : Program) (B : Exit → Act → World → Prop) (ops : Array Oper) (k : List Item) : List Nat → (Nat → Prop) → (Nat → World) → Act → World → Prop
  | [], _, _, a, w => Run P B (k, a) w
  | i :: r, U, H, a, w => if (i :: r).any (flt P ops) = true then OneF P B ops i U H a w (RobF P B ops k r) else Rob P B ops k (i :: r) H a w

theorem robF_plain {l : List Nat} {U : Nat → Prop} {H : Nat → World} {a : Act} {w : World} (h : l.any (flt P ops) = false) : RobF P B ops k l U H a w = Rob P B ops k l H a w := by
  cases l with
  | nil => rfl
  | cons i r => unfold RobF; rw [if_neg (by rw [h]; simp)]

theorem lightAt_flt {i : Nat} (h : flt P ops i = true) : lightAt P ops i = false := by
  unfold flt isRoom at h
  simp only [Bool.and_eq_true] at h
  have h := h.1.1
  unfold allocArg at h
  split at h
  · rename_i hop
    unfold lightAt
    rw [hop]; rfl
  · cases h

theorem OneF.mono {i : Nat} {U : Nat → Prop} {H : Nat → World} {a : Act} {w : World} {K K' : (Nat → Prop) → (Nat → World) → Act → World → Prop}
    (h : ∀ U' H' a' w', ((H' = H ∨ ∃ wF, H' = upd H (i + 1) wF) ∧ (softAt ops i = true ∨ Ext w w')) → K U' H' a' w' → K' U' H' a' w')
    (hh : OneF P B ops i U H a w K) : OneF P B ops i U H a w K' := by
  unfold OneF at *
  split
  · rename_i hf
    rw [if_pos hf] at hh
    exact fun w1 h1 b wF hb hz => h _ _ _ _ ⟨.inr ⟨_, rfl⟩, .inr h1⟩ (hh w1 h1 b wF hb hz)
  · rename_i hf
    rw [if_neg hf] at hh
    split
    · rename_i hl
      rw [if_pos hl] at hh
      refine One.mono (fun H' a' w' hc => h _ _ _ _ ?_) hh
      rcases hc with ⟨-, rfl, rfl⟩ | ⟨-, rfl, hb⟩
      · exact ⟨.inl rfl, .inr (Ext.refl _)⟩
      · exact ⟨.inr ⟨_, rfl⟩, hb⟩
    · rename_i hl
      rw [if_neg hl] at hh
      intro w1 h1
      refine One.mono (fun H' a' w' hc => h _ _ _ _ ?_) (hh w1 h1)
      rcases hc with ⟨-, rfl, rfl⟩ | ⟨-, rfl, hb⟩
      · exact ⟨.inl rfl, .inr h1⟩
      · exact ⟨.inr ⟨_, rfl⟩, hb.imp id h1.trans⟩

theorem robF_cons {i : Nat} {r : List Nat} {U : Nat → Prop} {H : Nat → World} {a : Act} {w : World} (h : OneF P B ops i U H a w (RobF P B ops k r)) : RobF P B ops k (i :: r) U H a w := by
  by_cases hf : (i :: r).any (flt P ops) = true
  · unfold RobF; rw [if_pos hf]; exact h
  · have hf' : (i :: r).any (flt P ops) = false := by simpa using hf
    rw [robF_plain hf', rob_cons]
    rw [List.any_cons, Bool.or_eq_false_iff] at hf'
    unfold OneF at h
    rw [if_neg (by rw [hf'.1]; simp)] at h
    split at h
    · refine One.mono (fun H' a' w' _ hk => ?_) h
      rwa [robF_plain hf'.2] at hk
    · refine One.mono (fun H' a' w' _ hk => ?_) (h w (Ext.refl _))
      rwa [robF_plain hf'.2] at hk

/-- The world may grow. -/
theorem robF_gap : ∀ (l : List Nat) {U : Nat → Prop} {H : Nat → World} {a : Act} {w w' : World}, l.any (flt P ops) = true → Ext w w' → RobF P B ops k l U H a w → RobF P B ops k l (ovr U w w') H a w'
  | [], _, _, _, _, _, hl, _, _ => by simp at hl
  | i :: r, U, H, a, w, w', hl, hE, h => by
    unfold RobF at h ⊢
    rw [if_pos hl] at h ⊢
    unfold OneF at h ⊢
    split
    · rename_i hf
      rw [if_pos hf] at h
      intro w1 h1 b wF hb hz
      have := h w1 (hE.trans h1) b wF (by rwa [ovr_ovr hE h1] at hb) hz
      rwa [← ovr_ovr hE h1] at this
    · rename_i hf
      rw [if_neg hf] at h
      have hr : r.any (flt P ops) = true := by
        rw [List.any_cons, Bool.or_eq_true] at hl
        exact hl.resolve_left hf
      split
      · rename_i hli
        rw [if_pos hli] at h
        unfold One at h ⊢
        dsimp only at h ⊢
        simp only [hli, if_true] at h ⊢
        split
        · rename_i hw
          rw [if_pos hw] at h
          obtain ⟨v, hv, h⟩ := h
          exact ⟨v, hv, robF_gap r hr hE h⟩
        · rename_i hw
          rw [if_neg hw] at h
          exact robF_gap r hr hE h
      · rename_i hli
        rw [if_neg hli] at h
        intro w1 h1
        have := h w1 (hE.trans h1)
        rwa [← ovr_ovr hE h1] at this

/-- What a room's place asks of those that stand ahead of it in the list. -/
def Loose (P : Program) (ops : Array Oper) (f i : Nat) : Prop := i < f ∧ inB ops i f = false ∧ (ops.getD i default).apart ops (ops.getD f default) = true

theorem loose_soft {f i : Nat} (hf : f < ops.size) (hp : pureAt ops f = false) (h : Loose P ops f i) : softAt ops i = false := by
  cases hb : softAt ops i
  · rfl
  · unfold softAt softTail at hb
    rw [Bool.and_eq_true, List.all_eq_true] at hb
    have := hb.1 f (List.mem_range.2 hf)
    have h1 := h.1
    simp [h.2.1, hp] at this
    omega
theorem flt_pure {f : Nat} (h : flt P ops f = true) : pureAt ops f = false := by
  unfold flt isRoom allocArg at h
  cases hp : pureAt ops f
  · rfl
  · exfalso
    unfold pureAt pureOp at hp
    cases hop : (ops.getD f default).op <;> rw [hop] at hp h <;> simp at hp h

theorem loose_bar {f i : Nat} (hf : f < ops.size) (h : Loose P ops f i) : barAt ops i = false := by
  cases hb : barAt ops i
  · rfl
  · unfold barAt tailAt at hb
    rw [Bool.and_eq_true, List.all_eq_true] at hb
    have := hb.1 f (List.mem_range.2 hf)
    have h1 := h.1
    simp [h.2.1] at this
    omega

theorem loose_lo {f i : Nat} (h : Loose P ops f i) : lo P ops i ≠ f + 1 := by
  rcases lo_spec P ops i with h1 | ⟨i', h1, h2, -⟩
  · omega
  · have := h.1; omega

/-- The room was made already, at b. -/
theorem robF_pend (hsel : ∀ i cs b, (ops.getD i default).op ≠ .select cs b) {f b : Nat} (wF : World) (hf : f < ops.size) (hff : flt P ops f = true) (s : List Nat) :
    ∀ (p : List Nat) {U : Nat → Prop} {H : Nat → World} {a : Act} {w : World}, (∀ i ∈ p, Loose P ops f i) → U b → Room P (ops.getD f default) w b →
      RobF P B ops k (p ++ f :: s) U H a w → RobF P B ops k (p ++ s) (fun x => U x ∧ x ≠ b) (upd H (f + 1) wF) (a.put (ops.getD f default).dst (.pointer (some ⟨b, 0, none⟩))) w
  | [], U, H, a, w, hp, hb, hz, h => by
    unfold RobF at h
    simp only [List.nil_append] at h
    rw [if_pos (by rw [List.any_cons, hff]; rfl)] at h
    unfold OneF at h
    rw [if_pos hff] at h
    have := h w (Ext.refl _) b wF (by rw [ovr_self]; exact hb) hz
    rwa [ovr_self] at this
  | i :: p, U, H, a, w, hp, hb, hz, h => by
    have hi := hp i (by simp)
    have hp' : ∀ i ∈ p, Loose P ops f i := fun x hx => hp x (List.mem_cons_of_mem _ hx)
    have hblt : b < w.heap.size := by obtain ⟨q, -, hq⟩ := hz; exact hq.lt
    obtain ⟨h1, h2, h3⟩ := Oper.apart_spec hi.2.2
    have ei : ∀ (a : Act) v, execOp (a.put (ops.getD f default).dst v).eval (ops.getD i default) = execOp a.eval (ops.getD i default) := fun a v => execOp_put _ (hsel i) a _ v h3
    have wi : ∀ (a : Act) v, Region.wanted (ops.getD i default) (yielded ops (a.put (ops.getD f default).dst v).tmps) = Region.wanted (ops.getD i default) (yielded ops a.tmps) := fun a v => wanted_put _ a _ v h3
    have cm : ∀ (a : Act) v u, (a.put (ops.getD i default).dst v).put (ops.getD f default).dst u = (a.put (ops.getD f default).dst u).put (ops.getD i default).dst v := fun a v u => Act.put_comm a v u h2
    have hne : i + 1 ≠ f + 1 := by have := hi.1; omega
    have hbar := loose_bar hf hi
    have hsoft := loose_soft hf (flt_pure hff) hi
    have hlo := loose_lo hi
    have hz' : ∀ w1, Ext w w1 → Room P (ops.getD f default) w1 b := fun w1 hE => by obtain ⟨q, h1, h2⟩ := hz; exact ⟨q, h1, h2.ext hE⟩
    have ih := fun {U H a w} => robF_pend hsel (b := b) wF hf hff s p (U := U) (H := H) (a := a) (w := w) hp'
    rw [List.cons_append] at h ⊢
    refine robF_cons ?_
    unfold RobF at h
    rw [if_pos (by simp [hff])] at h
    unfold OneF at h ⊢
    by_cases hfi : flt P ops i = true
    · rw [if_pos hfi] at h ⊢
      intro w1 hE b2 wF2 hb2 hz2
      have hbb : b2 ≠ b := by
        rcases hb2 with hb2 | hb2
        · exact hb2.2
        · omega
      have hb2' : ovr U w w1 b2 := hb2.imp And.left id
      have := ih ⟨.inl hb, hbb.symm⟩ (hz' w1 hE) (h w1 hE b2 wF2 hb2' hz2)
      rw [upd_comm _ _ hne, cm] at this
      have e : (fun x => (ovr U w w1 x ∧ x ≠ b2) ∧ x ≠ b) = fun x => ovr (fun x => U x ∧ x ≠ b) w w1 x ∧ x ≠ b2 := by
        funext x; apply propext; unfold ovr
        constructor
        · rintro ⟨⟨h | h, h4⟩, h5⟩
          · exact ⟨.inl ⟨h, h5⟩, h4⟩
          · exact ⟨.inr h, h4⟩
        · rintro ⟨h | h, h4⟩
          · exact ⟨⟨.inl h.1, h4⟩, h.2⟩
          · exact ⟨⟨.inr h, h4⟩, by omega⟩
      rw [e] at this
      exact this
    · rw [if_neg hfi] at h ⊢
      by_cases hl : lightAt P ops i = true
      · rw [if_pos hl] at h ⊢
        unfold One at h ⊢
        dsimp only at h ⊢
        rw [wi]
        rw [if_pos hl, if_pos hl] at h ⊢
        by_cases hw : Region.wanted (ops.getD i default) (yielded ops a.tmps) = true
        · rw [if_pos hw] at h ⊢
          obtain ⟨v, hv, h⟩ := h
          refine ⟨v, fun w' hw' => by rw [ei]; exact hv w' (by simpa [upd, hlo] using hw'), ?_⟩
          rw [← cm]
          exact ih hb hz h
        · rw [if_neg hw] at h ⊢
          rw [← cm]
          exact ih hb hz h
      · rw [if_neg hl] at h ⊢
        intro w1 hE
        have h := h w1 hE
        have e : ovr (fun x => U x ∧ x ≠ b) w w1 = fun x => ovr U w w1 x ∧ x ≠ b := by
          funext x; apply propext; unfold ovr
          constructor
          · rintro (h | h)
            · exact ⟨.inl h.1, h.2⟩
            · exact ⟨.inr h, by omega⟩
          · rintro ⟨h | h, h5⟩
            · exact .inl ⟨h, h5⟩
            · exact .inr h
        rw [e]
        unfold One at h ⊢
        dsimp only at h ⊢
        rw [wi]
        rw [if_neg hl, if_neg hl] at h ⊢
        by_cases hw : Region.wanted (ops.getD i default) (yielded ops a.tmps) = true
        · rw [if_pos hw] at h ⊢
          have key : Heavy P (ops.getD i default) a w1 (barAt ops i) B fun v w' => (softAt ops i = true ∨ Ext w1 w') ∧ RobF P B ops k (p ++ s) (fun x => ovr U w w1 x ∧ x ≠ b) (upd (upd H (f + 1) wF) (i + 1) w') ((a.put (ops.getD f default).dst (.pointer (some ⟨b, 0, none⟩))).put (ops.getD i default).dst v) w' := by
            refine h.mono fun v w' hh => ⟨hh.1, ?_⟩
            have hEE : Ext w1 w' := hh.1.resolve_left (by rw [hsoft]; simp)
            have := ih (.inl hb) (hz' w' (hE.trans hEE)) hh.2
            rw [upd_comm _ _ hne, cm] at this
            exact this
          unfold Heavy at key ⊢
          rw [ei]
          split at key
          · exact key
          · exact key
          · refine Calls.mono key fun e w2 he => ?_
            cases e with
            | returned u => exact he
            | panicked c => exact absurd he.1 (by simp [hbar])
            | outgrown => exact he
          · exact absurd key.1 (by simp [hbar])
          · exact key.elim
        · rw [if_neg hw] at h ⊢
          have := ih (.inl hb) (hz' w1 hE) h
          rw [upd_comm _ _ hne, cm] at this
          exact this

theorem oneF_light {i : Nat} (hf : flt P ops i = false) (hl : lightAt P ops i = true) {U : Nat → Prop} {H : Nat → World} {a : Act} {w : World} {K : (Nat → Prop) → (Nat → World) → Act → World → Prop} : OneF P B ops i U H a w K = One P B ops i H a w (K U) := by
  unfold OneF; rw [if_neg (by rw [hf]; simp), if_pos hl]
theorem oneF_heavy {i : Nat} (hf : flt P ops i = false) (hl : lightAt P ops i = false) {U : Nat → Prop} {H : Nat → World} {a : Act} {w : World} {K : (Nat → Prop) → (Nat → World) → Act → World → Prop} : OneF P B ops i U H a w K = ∀ w1, Ext w w1 → One P B ops i H a w1 (K (ovr U w w1)) := by
  unfold OneF; rw [if_neg (by rw [hf]; simp), if_neg (by rw [hl]; simp)]

theorem chkPair_of {i j : Nat} (hj : flt P ops j = false) (h : chkPairF P ops i j = true) : chkPair P ops i j = true := by
  unfold chkPairF at h
  unfold chkPair
  simp only [hj, Bool.false_or, Bool.or_eq_true, Bool.and_eq_true] at h ⊢
  rcases h with h | ⟨h | h, h2⟩
  · exact .inl h
  · exact .inr ⟨.inr h, h2⟩
  · exact .inr ⟨.inl h.1, h2⟩

/-- Two that stand in no order change places. -/
theorem swapF {i j : Nat} {U : Nat → Prop} {H : Nat → World} {a : Act} {w : World} {K : (Nat → Prop) → (Nat → World) → Act → World → Prop}
    (hij : inB ops i j = false) (hlt : i < j) (hj : j < ops.size) (hfj : flt P ops j = false)
    (hp : chkPairF P ops i j = true) (hsi : ∀ cs b, (ops.getD i default).op ≠ .select cs b) (hsj : ∀ cs b, (ops.getD j default).op ≠ .select cs b)
    (hlo : lo P ops j ≠ i + 1) (hE : pureAt ops j = true ∨ Ext (H (lo P ops j)) w)
    (hloi : lo P ops i ≠ j + 1)
    (h : OneF P B ops i U H a w fun U' H' a' w' => OneF P B ops j U' H' a' w' K) :
    OneF P B ops j U H a w fun U' H' a' w' => OneF P B ops i U' H' a' w' K := by
  have hpp := chkPair_of hfj hp
  have hap : (ops.getD i default).apart ops (ops.getD j default) = true ∧ (lightAt P ops j = true ∨ (lightAt P ops i = true ∧ flt P ops i = false)) := by
    unfold chkPairF at hp
    simp only [hij, hfj, Bool.false_or, Bool.and_eq_true, Bool.or_eq_true, Bool.not_eq_true'] at hp
    exact ⟨hp.2, hp.1⟩
  obtain ⟨hap, hlight⟩ := hap
  obtain ⟨h1, h2, h3⟩ := Oper.apart_spec hap
  have ej : ∀ (a : Act) v, execOp (a.put (ops.getD i default).dst v).eval (ops.getD j default) = execOp a.eval (ops.getD j default) := fun a v => execOp_put _ hsj a _ v h1
  have wj : ∀ (a : Act) v, Region.wanted (ops.getD j default) (yielded ops (a.put (ops.getD i default).dst v).tmps) = Region.wanted (ops.getD j default) (yielded ops a.tmps) := fun a v => wanted_put _ a _ v h1
  have cm : ∀ (a : Act) v u, (a.put (ops.getD i default).dst v).put (ops.getD j default).dst u = (a.put (ops.getD j default).dst u).put (ops.getD i default).dst v := fun a v u => Act.put_comm a v u h2
  by_cases hfi : flt P ops i = true
  · have lj : lightAt P ops j = true := hlight.resolve_right fun hh => by rw [hfi] at hh; cases hh.2
    unfold OneF at h
    rw [if_pos hfi] at h
    simp only [if_neg (show ¬ flt P ops j = true by rw [hfj]; simp), if_pos lj] at h
    rw [oneF_light hfj lj]
    unfold One at h ⊢
    dsimp only at h ⊢
    simp only [wj, ej, if_pos lj] at h ⊢
    by_cases wj0 : Region.wanted (ops.getD j default) (yielded ops a.tmps) = true
    · simp only [if_pos wj0] at h ⊢
      have hroom : ∃ p, allocArg P (ops.getD i default) = some p := by
        unfold flt isRoom at hfi
        simp only [Bool.and_eq_true] at hfi
        exact Option.isSome_iff_exists.1 hfi.1.1
      obtain ⟨p, hpr⟩ := hroom
      have hA := (HS.refl w).alloc p.1 p.2.cells
      obtain ⟨u, hu, -⟩ := h (w.alloc (.cells p.2.cells p.1)) hA.below w.heap.size w (.inr ⟨Nat.le_refl _, (hA.blk 0 rfl).lt⟩) ⟨p, hpr, hA.blk 0 rfl⟩
      have hu' : ∀ w', (pureAt ops j = true ∨ Ext (H (lo P ops j)) w') → (execOp a.eval (ops.getD j default)).run P w' = .ok (.value u) w' := fun w' hw' => hu w' (by simpa [upd, hlo] using hw')
      refine ⟨u, hu', ?_⟩
      unfold OneF
      rw [if_pos hfi]
      intro w1 hE1 b wF hb hz
      obtain ⟨u2, hu2, hk⟩ := h w1 hE1 b wF hb hz
      have e1 := hu2 w1 (by simpa [upd, hlo] using hE.imp id (·.trans hE1))
      rw [hu' w1 (hE.imp id (·.trans hE1))] at e1
      injection e1 with e1 _
      injection e1 with e1
      subst e1
      rw [← cm]; exact hk
    · simp only [if_neg wj0] at h ⊢
      unfold OneF
      rw [if_pos hfi]
      intro w1 hE1 b wF hb hz
      have := h w1 hE1 b wF hb hz
      rw [← cm]; exact this
  · have hfi : flt P ops i = false := by simpa using hfi
    by_cases li : lightAt P ops i = true
    · rw [oneF_light hfi li] at h
      by_cases lj : lightAt P ops j = true
      · rw [oneF_light hfj lj]
        have h' : One P B ops i H a w fun H' a' w' => One P B ops j H' a' w' (K U) := One.mono (fun H' a' w' _ hk => by rwa [oneF_light hfj lj] at hk) h
        exact One.mono (fun H' a' w' _ hk => by rw [oneF_light hfi li]; exact hk) (swap hij hlt hj hpp hsi hsj hlo hE hloi h')
      · have lj : lightAt P ops j = false := by simpa using lj
        rw [oneF_heavy hfj lj]
        intro w1 hE1
        have h' : One P B ops i H a w1 fun H' a' w' => One P B ops j H' a' w' (K (ovr U w w1)) := by
          unfold One at h
          dsimp only at h
          simp only [if_pos li] at h
          rw [One]
          simp only [if_pos li]
          by_cases wi0 : Region.wanted (ops.getD i default) (yielded ops a.tmps) = true
          · rw [if_pos wi0] at h ⊢
            obtain ⟨v, hv, h⟩ := h
            rw [oneF_heavy hfj lj] at h
            exact ⟨v, hv, h w1 hE1⟩
          · rw [if_neg wi0] at h ⊢
            rw [oneF_heavy hfj lj] at h
            exact h w1 hE1
        exact One.mono (fun H' a' w' _ hk => by rw [oneF_light hfi li]; exact hk) (swap hij hlt hj hpp hsi hsj hlo (hE.imp id (·.trans hE1)) hloi h')
    · have lj : lightAt P ops j = true := hlight.resolve_right fun hh => li hh.1
      have li : lightAt P ops i = false := by simpa using li
      rw [oneF_heavy hfi li] at h
      rw [oneF_light hfj lj]
      have h' : ∀ w1, Ext w w1 → One P B ops j H a w1 fun H' a' w' => One P B ops i H' a' w' (K (ovr U w w1)) := fun w1 hE1 =>
        swap hij hlt hj hpp hsi hsj hlo (hE.imp id (·.trans hE1)) hloi (One.mono (fun H' a' w' _ hk => by rwa [oneF_light hfj lj] at hk) (h w1 hE1))
      clear h
      unfold One at h' ⊢
      dsimp only at h' ⊢
      simp only [if_pos lj] at h' ⊢
      by_cases wj0 : Region.wanted (ops.getD j default) (yielded ops a.tmps) = true
      · simp only [if_pos wj0] at h' ⊢
        obtain ⟨u, hu, -⟩ := h' w (Ext.refl _)
        refine ⟨u, hu, ?_⟩
        rw [oneF_heavy hfi li]
        intro w1 hE1
        obtain ⟨u2, hu2, hk⟩ := h' w1 hE1
        have e1 := hu2 w1 (hE.imp id (·.trans hE1))
        rw [hu w1 (hE.imp id (·.trans hE1))] at e1
        injection e1 with e1 _
        injection e1 with e1
        subst e1
        exact hk
      · simp only [if_neg wj0] at h' ⊢
        rw [oneF_heavy hfi li]
        exact h'

theorem frontF {j : Nat} (hj : j < ops.size) (hfj : flt P ops j = false) (hsel : ∀ i cs b, (ops.getD i default).op ≠ .select cs b) :
    ∀ (p s : List Nat), (∀ i ∈ p, i < j ∧ inB ops i j = false ∧ chkPairF P ops i j = true) → ∀ (U : Nat → Prop) (H : Nat → World) (a : Act) (w : World), (pureAt ops j = true ∨ Ext (H (lo P ops j)) w) → (∀ i ∈ p, lo P ops j ≠ i + 1) → (∀ i ∈ p, lo P ops i ≠ j + 1) →
      RobF P B ops k (p ++ j :: s) U H a w → RobF P B ops k (j :: (p ++ s)) U H a w := by
  intro p
  induction p with
  | nil => intro s _ U H a w _ _ _ h; exact h
  | cons i p ih =>
    intro s hp U H a w hE hlo hloi h
    by_cases hany : (i :: p ++ j :: s).any (flt P ops) = true
    · obtain ⟨h1, h2, h3⟩ := hp i (by simp)
      have hh : OneF P B ops i U H a w (RobF P B ops k (p ++ j :: s)) := by
        rw [List.cons_append] at h hany
        unfold RobF at h
        rw [if_pos hany] at h
        exact h
      have h' : OneF P B ops i U H a w fun U' H' a' w' => OneF P B ops j U' H' a' w' (RobF P B ops k (p ++ s)) := by
        refine OneF.mono (K := RobF P B ops k (p ++ j :: s)) (fun U' H' a' w' hc hr => ?_) hh
        have hE' : pureAt ops j = true ∨ Ext (H' (lo P ops j)) w' := by
          by_cases hpj : pureAt ops j = true
          · exact .inl hpj
          have hb : Ext w w' := by
            refine hc.2.resolve_left fun hb => ?_
            unfold softAt softTail at hb
            rw [Bool.and_eq_true, List.all_eq_true] at hb
            have := hb.1 j (List.mem_range.2 hj)
            simp [h2, hpj] at this
            omega
          have hne := hlo i (by simp)
          rcases hc.1 with rfl | ⟨wF, rfl⟩
          · exact hE.imp id (·.trans hb)
          · simp only [upd, hne, if_false]; exact hE.imp id (·.trans hb)
        have hr' := ih s (fun x hx => hp x (List.mem_cons_of_mem _ hx)) U' H' a' w' hE' (fun x hx => hlo x (List.mem_cons_of_mem _ hx)) (fun x hx => hloi x (List.mem_cons_of_mem _ hx)) hr
        by_cases hany2 : (j :: (p ++ s)).any (flt P ops) = true
        · unfold RobF at hr'
          rw [if_pos hany2] at hr'
          exact hr'
        · have hany2 : (j :: (p ++ s)).any (flt P ops) = false := by simpa using hany2
          rw [robF_plain hany2, rob_cons] at hr'
          have hps : (p ++ s).any (flt P ops) = false := by
            rw [List.any_cons, Bool.or_eq_false_iff] at hany2; exact hany2.2
          have hfi : flt P ops i = true := by
            rw [List.any_append] at hps
            simp only [List.cons_append, List.any_cons, List.any_append, Bool.or_eq_true, hfj] at hany
            rw [Bool.or_eq_false_iff] at hps
            rcases hany with h | h | h
            · exact h
            · rw [hps.1] at h; cases h
            · rw [hps.2] at h; simp at h
          have lj : lightAt P ops j = true := by
            unfold chkPairF at h3
            simp only [h2, hfj, hfi, Bool.false_or, Bool.not_true, Bool.and_false, Bool.or_false, Bool.and_eq_true] at h3
            exact h3.1
          rw [oneF_light hfj lj]
          exact One.mono (fun H2 a2 w2 _ hk => by rw [robF_plain hps]; exact hk) hr'
      exact robF_cons (OneF.mono (fun U2 H2 a2 w2 _ hk => robF_cons hk) (swapF h2 h1 hj hfj h3 (hsel i) (hsel j) (hlo i (by simp)) hE (hloi i (by simp)) h'))
    · have hany : (i :: p ++ j :: s).any (flt P ops) = false := by simpa using hany
      rw [robF_plain hany] at h
      have hany2 : (j :: (i :: p ++ s)).any (flt P ops) = false := by
        simp only [List.cons_append, List.any_cons, List.any_append, Bool.or_eq_false_iff] at hany ⊢
        exact ⟨hany.2.2.1, hany.1, hany.2.1, hany.2.2.2⟩
      rw [robF_plain hany2]
      exact front hj hsel (i :: p) s (fun x hx => ⟨(hp x hx).1, (hp x hx).2.1, chkPair_of hfj (hp x hx).2.2⟩) H a w hE hlo hloi h


theorem wpOp_of_oneF {i : Nat} {U : Nat → Prop} {H : Nat → World} {a : Act} {w : World} {K : (Nat → Prop) → (Nat → World) → Act → World → Prop} {K' : Act → World → Prop} (hi : i < ops.size) (hf : flt P ops i = false)
    (hE : pureAt ops i = true ∨ Ext (H (lo P ops i)) w) (hK : ∀ U' H' a' w', (lightAt P ops i = true ∧ H' = H ∧ w' = w) ∨ (lightAt P ops i = false ∧ H' = upd H (i + 1) w' ∧ (softAt ops i = true ∨ Ext w w')) → K U' H' a' w' → K' a' w')
    (h : OneF P B ops i U H a w K) : wpOp P ops (After P B k) i K' a w := by
  by_cases hl : lightAt P ops i = true
  · rw [oneF_light hf hl] at h
    exact wpOp_of_one hi hE (fun H' a' w' => hK U H' a' w') h
  · have hl : lightAt P ops i = false := by simpa using hl
    rw [oneF_heavy hf hl] at h
    exact wpOp_of_one hi hE (fun H' a' w' => hK _ H' a' w') (h w (Ext.refl _))

/-- What was said of the worlds stays true. -/
theorem keepE {listed : Array Bool} {H H' : Nat → World} {w w' : World} {j : Nat} (hs : listed.size = ops.size) (hlt : j < ops.size) (h0 : listed.getD j true = false)
    (hcl : ∀ j, listed.getD j false = true → ∀ i, inB ops i j = true → listed.getD i false = true)
    (hnot : ∀ i, listed.getD i true = false → inB ops i j = false)
    (hE : ∀ i ∈ todoOf ops.size listed, (lo P ops i = 0 ∨ ∃ j, lo P ops i = j + 1 ∧ listed.getD j true = true) → (pureAt ops i = true ∨ Ext (H (lo P ops i)) w))
    (hh : (lightAt P ops j = true ∧ H' = H ∧ w' = w) ∨ (lightAt P ops j = false ∧ H' = upd H (j + 1) w' ∧ (softAt ops j = true ∨ Ext w w'))) :
    ∀ i ∈ todoOf ops.size (listed.setIfInBounds j true), (lo P ops i = 0 ∨ ∃ m, lo P ops i = m + 1 ∧ (listed.setIfInBounds j true).getD m true = true) → (pureAt ops i = true ∨ Ext (H' (lo P ops i)) w') := by
  have hft : ∀ i, listed.getD i false = true → listed.getD i true = true := by
    intro i hi
    rcases Nat.lt_or_ge i listed.size with hi' | hi'
    · simpa [hi'] using hi
    · simp [Array.getElem?_eq_none hi'] at hi
  intro m hm hlm
  obtain ⟨hmlt, hml⟩ := mem_todoOf.1 hm
  have hmj : m ≠ j := by
    intro hmj
    subst hmj
    have : m < listed.size := by omega
    simp [this] at hml
  have hml' : listed.getD m true = false := by rw [getD_set_ne true (Ne.symm hmj)] at hml; exact hml
  have hmt : m ∈ todoOf ops.size listed := mem_todoOf.2 ⟨hmlt, hml'⟩
  rcases hh with ⟨hlj, rfl, rfl⟩ | ⟨hlj, rfl, hb⟩
  · refine hE m hmt ?_
    rcases hlm with h1 | ⟨i, h1, h2⟩
    · exact .inl h1
    · refine .inr ⟨i, h1, ?_⟩
      have hij : i ≠ j := by
        rintro rfl
        rcases lo_spec P ops m with h3 | ⟨i', h3, -, h4, -⟩
        · omega
        · have : i' = i := by omega
          subst this
          rw [hlj] at h4; cases h4
      rw [getD_set_ne true (Ne.symm hij)] at h2; exact h2
  · by_cases hlm2 : lo P ops m = j + 1
    · rw [hlm2]; simp only [upd, if_true]; exact .inr (Ext.refl _)
    · simp only [upd, hlm2, if_false]
      have hE' : pureAt ops m = true ∨ Ext (H (lo P ops m)) w := by
        refine hE m hmt ?_
        rcases hlm with h1 | ⟨i, h1, h2⟩
        · exact .inl h1
        · refine .inr ⟨i, h1, ?_⟩
          rw [getD_set_ne true (by omega)] at h2; exact h2
      rcases hb with hb | hb
      · unfold softAt softTail at hb
        rw [Bool.and_eq_true, List.all_eq_true, List.all_eq_true] at hb
        rcases Nat.lt_trichotomy m j with h1 | h1 | h1
        · have := hb.2 m (List.mem_range.2 h1)
          rw [hnot m hml', Bool.false_or] at this; exact .inl this
        · exact absurd h1 hmj
        · have hjm := hb.1 m (List.mem_range.2 hmlt)
          have hjm2 : inB ops j m = true ∨ pureAt ops m = true := by simpa [Nat.not_le.2 h1] using hjm
          rcases hjm2.symm with hpm | hjm'
          · exact .inl hpm
          exfalso
          have hge := lo_ge (P := P) h1 hlj hjm'
          rcases hlm with h2 | ⟨i, h2, h3⟩
          · omega
          · have hij : i ≠ j := by omega
            have hlt' : j < i := by omega
            obtain ⟨i2, e2, hi2, hl2, -⟩ := (lo_spec P ops m).resolve_left (by omega)
            have hilt : i < ops.size := by omega
            have hji := hb.1 i (List.mem_range.2 hilt)
            have hji2 : inB ops j i = true ∨ pureAt ops i = true := by simpa [Nat.not_le.2 hlt'] using hji
            have hii : i2 = i := by omega
            have hji' : inB ops j i = true := hji2.resolve_right fun hp => by have := pure_light (P := P) hp; rw [hii] at hl2; rw [this] at hl2; cases hl2
            rw [getD_set_ne true (Ne.symm hij)] at h3
            have h3' : listed.getD i false = true := by
              have : i < listed.size := by omega
              simpa [this] using h3
            have := hft j (hcl i h3' j hji')
            rw [h0] at this; cases this
      · exact hE'.imp id (·.trans hb)

theorem ready_some (hone : ∀ j, j < ops.size → chkOne ops j = true) {listed : Array Bool} (hs : listed.size = ops.size) (hne : todoOf ops.size listed ≠ []) : Region.ready .any ops listed ≠ [] := by
  intro hr
  cases ht : todoOf ops.size listed with
  | nil => exact hne ht
  | cons x xs =>
    have hx : x ∈ todoOf ops.size listed := by rw [ht]; simp
    obtain ⟨hlt, hl⟩ := mem_todoOf.1 hx
    have hfirst : ∀ y, y < x → listed.getD y true = true := by
      intro y hy
      cases hly : listed.getD y true
      · exfalso
        obtain ⟨p, s, e, hp, -⟩ := todo_split hs hx
        have hy' : y ∈ todoOf ops.size listed := mem_todoOf.2 ⟨by omega, hly⟩
        cases p with
        | nil =>
          rw [List.nil_append] at e
          have hsorted : (todoOf ops.size listed).Pairwise (· < ·) := List.Pairwise.filter _ List.pairwise_lt_range
          rw [ht, List.pairwise_cons] at hsorted
          rw [ht] at hy'
          rcases List.mem_cons.1 hy' with rfl | hy'
          · omega
          · have := hsorted.1 y hy'; omega
        | cons z p =>
          have hz := (hp z (by simp)).1
          rw [ht, List.cons_append] at e
          injection e with e _
          omega
      · rfl
    have : x ∈ Region.ready .any ops listed := by
      refine mem_ready.2 ⟨hl, ops.getD x default, by simp [Array.getElem?_eq_getElem hlt], fun e he hb => ?_⟩
      have h1 := hone x hlt
      unfold chkOne at h1
      rw [Bool.and_eq_true, Array.all_eq_true_iff_forall_mem] at h1
      have h2 := h1.1 e he
      simp only [hb, Bool.not_true, Bool.false_or, Bool.and_eq_true, decide_eq_true_eq] at h2
      have h3 := hfirst e.on h2.1
      have : e.on < listed.size := by omega
      simpa [this] using h3
    rw [hr] at this
    cases this

theorem robF_any (hone : ∀ j, j < ops.size → chkOne ops j = true) (hpr : ∀ i j, i < j → j < ops.size → chkPairF P ops i j = true) : ∀ (fuel : Nat) (listed : Array Bool) (U : Nat → Prop) (H : Nat → World) (a : Act) (w : World), listed.size = ops.size → (todoOf ops.size listed).length = fuel →
    (∀ j, listed.getD j false = true → ∀ i, inB ops i j = true → listed.getD i false = true) →
    (∀ i ∈ todoOf ops.size listed, (lo P ops i = 0 ∨ ∃ j, lo P ops i = j + 1 ∧ listed.getD j true = true) → (pureAt ops i = true ∨ Ext (H (lo P ops i)) w)) →
    RobF P B ops k (todoOf ops.size listed) U H a w → wpAny P .any ops (After P B k) fuel listed a w := by
  have hsel : ∀ i cs b, (ops.getD i default).op ≠ .select cs b := by
    intro i cs b hop
    rcases Nat.lt_or_ge i ops.size with hi | hi
    · have := hone i hi
      unfold chkOne at this
      rw [hop] at this
      simp at this
    · have : ops.getD i default = default := by simp [Array.getElem?_eq_none hi]
      rw [this] at hop
      cases hop
  intro fuel
  induction fuel with
  | zero =>
    intro listed U H a w hs hn hcl hE h
    have hnil : todoOf ops.size listed = [] := List.length_eq_zero_iff.1 hn
    rw [hnil, robF_plain (by rfl), ← hnil] at h
    exact rob_anyW hone 0 listed H a w hs hn (fun i j hij hj h1 _ => by
      have : i ∈ todoOf ops.size listed := mem_todoOf.2 ⟨by omega, h1⟩
      rw [hnil] at this; cases this) hcl hE h
  | succ fuel ih =>
    intro listed U H a w hs hn hcl hE h
    by_cases hany : (todoOf ops.size listed).any (flt P ops) = true
    · refine ⟨fun hr => absurd hr (ready_some hone hs (by intro h0; rw [h0] at hn; cases hn)), fun j hj => ?_⟩
      obtain ⟨h0, o, ho, hall⟩ := mem_ready.1 hj
      have hlt : j < ops.size := (Array.getElem?_eq_some_iff.1 ho).1
      have hoj : ops.getD j default = o := by simp [ho]
      have hjt : j ∈ todoOf ops.size listed := mem_todoOf.2 ⟨hlt, h0⟩
      obtain ⟨p, s, e, hp, e'⟩ := todo_split hs hjt
      have hwait : ∀ i, inB ops i j = true → listed.getD i false = true := fun i hi => inB_down hcl (by rw [hoj]; exact hall) hi
      have hft : ∀ i, listed.getD i false = true → listed.getD i true = true := by
        intro i hi
        rcases Nat.lt_or_ge i listed.size with hi' | hi'
        · simpa [hi'] using hi
        · simp [Array.getElem?_eq_none hi'] at hi
      have hnot : ∀ i, listed.getD i true = false → inB ops i j = false := by
        intro i hi
        cases hb : inB ops i j
        · rfl
        · rw [hft i (hwait i hb)] at hi; cases hi
      have hloj : lo P ops j = 0 ∨ ∃ i, lo P ops j = i + 1 ∧ listed.getD i true = true := by
        rcases lo_spec P ops j with h1 | ⟨i, h1, -, -, h2⟩
        · exact .inl h1
        · exact .inr ⟨i, h1, hft i (hwait i h2)⟩
      have hEj := hE j hjt hloj
      have hs' : (listed.setIfInBounds j true).size = ops.size := by simp [hs]
      have hlen : (todoOf ops.size (listed.setIfInBounds j true)).length = fuel := by
        rw [e']; rw [e] at hn; simp at hn ⊢; omega
      have hcl' : ∀ m, (listed.setIfInBounds j true).getD m false = true → ∀ i, inB ops i m = true → (listed.setIfInBounds j true).getD i false = true := by
        intro m hm i hi
        by_cases hmj : m = j
        · subst hmj
          exact getD_set_true (hwait i hi)
        · rw [getD_set_ne false (Ne.symm hmj)] at hm
          exact getD_set_true (hcl m hm i hi)
      rw [e] at h hany
      by_cases hfj : flt P ops j = true
      · -- the room is made now
        have hroom : ∃ q, allocArg P (ops.getD j default) = some q := by
          unfold flt isRoom at hfj
          simp only [Bool.and_eq_true] at hfj
          exact Option.isSome_iff_exists.1 hfj.1.1
        have hguard : (ops.getD j default).guard = none := by
          unfold flt isRoom at hfj
          simp only [Bool.and_eq_true] at hfj
          simpa using hfj.1.2
        obtain ⟨q, hq⟩ := hroom
        have hA := (HS.refl w).alloc q.1 q.2.cells
        have hloose : ∀ i ∈ p, Loose P ops j i := fun i hi => ⟨(hp i hi).1, hnot i (hp i hi).2, by
          have := hpr i j (hp i hi).1 hlt
          unfold chkPairF at this
          simp only [hnot i (hp i hi).2, Bool.false_or, Bool.and_eq_true] at this
          exact this.2⟩
        have h1 := robF_gap _ hany hA.below h
        have h2 := robF_pend hsel (b := w.heap.size) (w.alloc (.cells q.2.cells q.1)) hlt hfj s p hloose (.inr ⟨Nat.le_refl _, (hA.blk 0 rfl).lt⟩) ⟨q, hq, hA.blk 0 rfl⟩ h1
        have hop := op_alloc (P := P) (a := a) (w := w) (t := q.1) (v := q.2) hq
        unfold wpOp
        rw [ho]
        dsimp only
        rw [hoj] at hop hguard
        rw [if_pos (by unfold Region.wanted; rw [hguard])]
        refine .inl ?_
        unfold Oper.wp
        rw [hop]
        rw [hoj] at h2
        rw [← e'] at h2
        exact ih (listed.setIfInBounds j true) _ _ _ _ hs' hlen hcl' (keepE hs hlt h0 hcl hnot hE (.inr ⟨lightAt_flt hfj, rfl, .inr hA.below⟩)) h2
      · have hfj : flt P ops j = false := by simpa using hfj
        have hfr := frontF (P := P) (B := B) (k := k) hlt hfj hsel p s (fun i hi => ⟨(hp i hi).1, hnot i (hp i hi).2, hpr i j (hp i hi).1 hlt⟩) U H a w hEj
          (fun i hi he => by
            rcases hloj with h1 | ⟨i', h1, h2⟩
            · omega
            · have : i' = i := by omega
              subst this
              rw [(hp i' hi).2] at h2; cases h2)
          (fun i hi he => by
            rcases lo_spec P ops i with h1 | ⟨i', h1, h2, -⟩
            · omega
            · have := (hp i hi).1; omega) h
        unfold RobF at hfr
        rw [if_pos (by
          simp only [List.any_cons, List.any_append, Bool.or_eq_true] at hany ⊢
          rcases hany with h | h | h
          · exact .inr (.inl h)
          · exact .inl h
          · exact .inr (.inr h))] at hfr
        rw [← e'] at hfr
        exact wpOp_of_oneF hlt hfj hEj (fun U' H' a' w' hh hr => ih (listed.setIfInBounds j true) U' H' a' w' hs' hlen hcl' (keepE hs hlt h0 hcl hnot hE hh) hr) hfr
    · have hany : (todoOf ops.size listed).any (flt P ops) = false := by simpa using hany
      rw [robF_plain hany] at h
      refine rob_anyW hone (fuel + 1) listed H a w hs hn (fun i j hij hj h1 h2 => chkPair_of ?_ (hpr i j hij hj)) hcl hE h
      rw [List.any_eq_false] at hany
      simpa using hany j (mem_todoOf.2 ⟨hj, h2⟩)


/-! the steps -/
/-- The blocks that came in the gaps. -/
def Ck.fr (U : Nat → Prop) : Ck where
  h := fun w S => ∀ k, U k → S k ∧ k < w.heap.size
  loc := fun {w w' S} h hk k hU => ⟨(h k hU).1, by
    have h1 := (h k hU).2
    have := hk k (h k hU).1 h1
    rcases Nat.lt_or_ge k w'.heap.size with h2 | h2
    · exact h2
    · rw [Array.getElem?_eq_none h2, Array.getElem?_eq_getElem h1] at this
      cases this⟩
  trim := fun h k hU => ⟨h k hU, (h k hU).2⟩

theorem HS.fr {w0 w : World} {L : List Ck} (h : HS w0 w L) : HS w0 w (Ck.fr (fun _ => False) :: L) :=
  ⟨h.1, fun _ => False, (fun _ h => h.elim), (fun _ h => h.elim), h.2.mono fun k hk => ⟨hk, id⟩⟩

theorem HS.gap {w0 w w1 : World} {L : List Ck} {U : Nat → Prop} (h : HS w0 w (Ck.fr U :: L)) (hE : Ext w w1) : HS w0 w1 (Ck.fr (ovr U w w1) :: L) :=
  HS.step h fun S hS hlt => ⟨fun k => S k ∨ (w.heap.size ≤ k ∧ k < w1.heap.size), fun k hk => by
    rcases hk with hk | hk
    · exact ⟨.inl (hS k hk).1, Nat.lt_of_lt_of_le (hS k hk).2 hE.size⟩
    · exact ⟨.inr hk, hk.2⟩, fun k hk => hk.imp id And.left, Chg.of_ext hE S⟩

theorem HS.room {w0 w : World} {L : List Ck} {U : Nat → Prop} {b : Nat} {T : TypeId} {cs : Array Value} (h : HS w0 w (Ck.fr U :: L)) (hb : U b) (hB : Blk w b T cs) : HS w0 w (Ck.fr (fun x => U x ∧ x ≠ b) :: Ck.blk b T cs :: L) := by
  obtain ⟨h0, S, h1, h2, h3⟩ := h
  refine ⟨h0, fun x => S x ∧ x ≠ b, fun k hk => ⟨⟨(h1 k hk.1).1, hk.2⟩, (h1 k hk.1).2⟩, fun k hk => h2 k hk.1, fun k => k = b, ⟨hB, rfl⟩, fun k hk => ?_, Sep.mono h3 fun k hk => ⟨⟨hk.1, fun h => hk.2 h.1⟩, ?_⟩⟩
  · subst hk; exact ⟨h2 k (h1 k hb).1, fun h => h.2 rfl⟩
  · rintro rfl; exact hk.2 (h1 k hb).1

def isDrawF (P : Program) (σ : List Item × Act) : Bool := match σ.1 with | .code (.region _ ops true) :: _ => chkF P ops | _ => false
def RobCF (P : Program) (B : Exit → Act → World → Prop) (U : Nat → Prop) (H : Nat → World) (σ : List Item × Act) (w : World) : Prop :=
  match σ.1 with | .inRegion ops l :: k => RobF P B ops k l U H σ.2 w | _ => False

/-- Where rooms are still to be made: what the operation is. -/
def fltLight (P : Program) (σ : List Item × Act) : Bool := match σ.1 with | .inRegion ops (i :: r) :: _ => (i :: r).any (flt P ops) && !flt P ops i && lightAt P ops i && Region.wanted (ops.getD i default) (yielded ops σ.2.tmps) && !pureAt ops i | _ => false
def fltHeavy (P : Program) (σ : List Item × Act) : Bool := match σ.1 with | .inRegion ops (i :: r) :: _ => (i :: r).any (flt P ops) && !flt P ops i && !lightAt P ops i && Region.wanted (ops.getD i default) (yielded ops σ.2.tmps) | _ => false
def fltRoom (P : Program) (σ : List Item × Act) : Bool := match σ.1 with | .inRegion ops (i :: _) :: _ => flt P ops i | _ => false
def fltOut (P : Program) (σ : List Item × Act) : Bool := match σ.1 with | .inRegion ops l :: _ => !l.any (flt P ops) | _ => false

/-- What is plain, where rooms are still to be made. -/
def advF (P : Program) : Nat → List Item × Act → List Item × Act
  | 0, σ => σ
  | n + 1, σ =>
    match σ.1 with
    | .inRegion ops (i :: r) :: k =>
      if ((!Region.wanted (ops.getD i default) (yielded ops σ.2.tmps) || (autoOp P (ops.getD i default).op && !asks ops i)) && lightAt P ops i) && ((i :: r).any (flt P ops) && !flt P ops i) then
        match calmStep P ops i σ.2 with
        | some a' => advF P n (.inRegion ops r :: k, a')
        | none => σ
      else σ
    | _ => σ

theorem robF_adv {U : Nat → Prop} {H : Nat → World} (n : Nat) : ∀ {σ : List Item × Act} {w : World}, RobCF P B U H (advF P n σ) w → RobCF P B U H σ w := by
  induction n with
  | zero => intro σ w h; exact h
  | succ n ih =>
    intro σ w h
    unfold advF at h
    split at h
    · rename_i ops i r k he
      obtain ⟨t, a⟩ := σ
      simp only at he
      subst he
      split at h
      · rename_i hc
        rw [Bool.and_eq_true, Bool.and_eq_true, Bool.and_eq_true, Bool.not_eq_true'] at hc
        obtain ⟨⟨hc1, hc2⟩, hc3, hc4⟩ := hc
        split at h
        · rename_i a' ha
          have h2 : RobF P B ops k r U H a' w := ih h
          show RobF P B ops k (i :: r) U H a w
          unfold RobF
          rw [if_pos hc3, oneF_light hc4 hc2]
          unfold calmStep at ha
          split at ha
          · cases ha
          · rename_i o ho
            have hoo : ops.getD i default = o := by simp [ho]
            unfold One
            simp only [hoo, hc2, if_true]
            split at ha
            · rename_i hw
              rw [if_pos hw]
              split at ha
              · rename_i v hv
                simp only [Option.some.injEq] at ha
                exact ⟨v, fun w' _ => calm_run _ hv w', by rw [ha]; exact h2⟩
              · cases ha
            · rename_i hw
              rw [if_neg hw]
              simp only [Option.some.injEq] at ha
              rw [ha]; exact h2
        · exact h
      · exact h
    · exact h

theorem chkF_spec (hc : chkF P ops = true) : ∀ j, j < ops.size → chkOne ops j = true ∧ ∀ i, i < j → chkPairF P ops i j = true := by
  intro j hj
  unfold chkF at hc
  rw [List.all_eq_true] at hc
  have := hc j (List.mem_range.2 hj)
  rw [Bool.and_eq_true, List.all_eq_true] at this
  exact ⟨this.1, fun i hi => this.2 i (List.mem_range.2 hi)⟩

theorem run_drawF {w0 : World} {L : List Ck} {σ : List Item × Act} {w : World} (Hs : HS w0 w L) (hm : P.follows .mixedOrders = true) (hk : isDrawF P σ = true)
    (h : ∀ w1 U, Ext w w1 → HS w0 w1 (Ck.fr U :: L) → RobCF P B U (fun _ => w1) (advF P fuel (intoDraw σ)) w1) : Run P B σ w := by
  obtain ⟨t, a⟩ := σ
  unfold isDrawF at hk
  simp only at hk
  split at hk
  · rename_i id ops k
    refine run_wp (wp_region_any hm ?_)
    have h1 := robF_adv fuel (h w.drew (fun _ => False) (Ext.drew w) (Hs.ext (Ext.drew w)).fr)
    have hall : todoOf ops.size (Array.replicate ops.size false) = List.range ops.size := by
      unfold todoOf
      rw [List.filter_eq_self]
      intro i hi
      have := List.mem_range.1 hi
      simp [this]
    refine robF_any (P := P) (B := B) (k := k) (fun j hj => (chkF_spec hk j hj).1) (fun i j hij hj => (chkF_spec hk j hj).2 i hij) ops.size (Array.replicate ops.size false) (fun _ => False) (fun _ => w.drew) a w.drew (by simp) (by rw [hall]; simp) ?_ (fun i hi _ => .inr (Ext.refl _)) (by rw [hall]; exact h1)
    intro j hj
    exfalso
    rcases Nat.lt_or_ge j ops.size with h2 | h2
    · simp [h2] at hj
    · simp [Array.getElem?_eq_none (xs := Array.replicate ops.size false) (i := j) (by simpa using h2)] at hj
  · cases hk

variable {U : Nat → Prop} {hist : Nat → World} {σ : List Item × Act} {w w0 : World} {L : List Ck}

theorem robF_light (v : Value) (W : World) (hk : fltLight P σ = true) (hW : hist (loOf P σ) = W) (hv : ∀ w', Ext W w' → (execOp σ.2.eval (opOf σ)).run P w' = .ok (.value v) w')
    (h : RobCF P B U hist (advF P fuel (nxt σ v)) w) : RobCF P B U hist σ w := by
  obtain ⟨t, a⟩ := σ
  unfold fltLight at hk
  simp only at hk
  split at hk
  · rename_i ops i r k
    simp only [Bool.and_eq_true, Bool.not_eq_true'] at hk
    obtain ⟨⟨⟨⟨h1, h2⟩, h3⟩, h4⟩, hnp⟩ := hk
    simp only [loOf] at hW
    subst hW
    have h' := robF_adv fuel h
    show RobF P B ops k (i :: r) U hist a w
    unfold RobF
    rw [if_pos h1, oneF_light h2 h3]
    unfold One
    simp only [h3, h4, if_true]
    exact ⟨v, fun w' hw => hv w' (hw.resolve_left (by rw [hnp]; simp)), h'⟩
  · cases hk

theorem robF_ld {L' : List Ck} {W : World} {n : Nat} {b off : Nat} {t T : TypeId} {cs : Array Value} {v : Value} (H : HS w0 W L') (hn : L'[n]? = some (Ck.blk b T cs)) (hk : fltLight P σ = true) (hW : hist (loOf P σ) = W)
    (ho : loadArg σ.2 (opOf σ) = some (t, .pointer (some ⟨b, off, none⟩))) (hv : ldv P t cs off = some v) (K : RobCF P B U hist (advF P fuel (nxt σ v)) w) : RobCF P B U hist σ w :=
  robF_light v W hk hW (fun w' hE => op_load ho (run_loadVar_blk ((H.blk n hn).ext hE) hv)) K

theorem robF_heavy (H : HS w0 w (Ck.fr U :: L)) (hk : fltHeavy P σ = true)
    (h : ∀ w1 U', Ext w w1 → HS w0 w1 (Ck.fr U' :: L) → Heavy P (opOf σ) σ.2 w1 (barOf σ) B fun v w' => Ext w1 w' ∧ RobCF P B U' (upd hist (pcOf σ + 1) w') (advF P fuel (nxt σ v)) w') : RobCF P B U hist σ w := by
  obtain ⟨t, a⟩ := σ
  unfold fltHeavy at hk
  simp only at hk
  split at hk
  · rename_i ops i r k
    simp only [Bool.and_eq_true, Bool.not_eq_true'] at hk
    obtain ⟨⟨⟨h1, h2⟩, h3⟩, h4⟩ := hk
    show RobF P B ops k (i :: r) U hist a w
    unfold RobF
    rw [if_pos h1, oneF_heavy h2 h3]
    intro w1 hE
    unfold One
    simp only [h3, h4, if_true, Bool.false_eq_true, if_false]
    exact Heavy.mono (fun v w' hh => ⟨.inr hh.1, robF_adv (σ := (.inRegion ops r :: k, a.put (ops.getD i default).dst v)) fuel hh.2⟩) (h w1 _ hE (H.gap hE))
  · cases hk

theorem robF_call {f : FuncId} {args : Array Value} (H : HS w0 w (Ck.fr U :: L)) (hk : fltHeavy P σ = true) (ho : callArg σ.2 (opOf σ) = some (f, args)) (hp : plainFn P f = true)
    (h : ∀ w1 U', Ext w w1 → HS w0 w1 (Ck.fr U' :: L) → ∃ R, Calls P f args w1 R ∧ ∀ e w', R e w' → ∃ v, e = .returned v ∧ Ext w1 w' ∧ RobCF P B U' (upd hist (pcOf σ + 1) w') (advF P fuel (nxt σ v)) w') : RobCF P B U hist σ w :=
  robF_heavy H hk fun w1 U' hE H1 => by
    obtain ⟨R, hc, hK⟩ := h w1 U' hE H1
    exact heavy_call ho hp hc hK

theorem robF_box {t : TypeId} {v : Value} (H : HS w0 w (Ck.fr U :: L)) (hk : fltHeavy P σ = true) (ho : boxArg σ.2 (opOf σ) = some (t, v))
    (K : ∀ b w' U', HS w0 w' (Ck.fr U' :: Ck.blk b t v.cells :: L) → RobCF P B U' (upd hist (pcOf σ + 1) w') (advF P fuel (nxt σ (.pointer (some ⟨b, 0, none⟩)))) w') : RobCF P B U hist σ w :=
  robF_heavy H hk fun w1 U' hE H1 => heavy_val (op_box ho) ⟨alloc_ext _ _, K _ _ _ (HS.swap (H1.alloc t v.cells))⟩
theorem robF_bs {e : TypeId} {len : Nat} {cells : Array Value} (H : HS w0 w (Ck.fr U :: L)) (hk : fltHeavy P σ = true) (ho : bsArg P σ.2 (opOf σ) = some (e, len, cells))
    (K : ∀ b w' U', HS w0 w' (Ck.fr U' :: Ck.blk b e cells :: L) → RobCF P B U' (upd hist (pcOf σ + 1) w') (advF P fuel (nxt σ (.slice (some ⟨b, 0, none⟩) len len))) w') : RobCF P B U hist σ w :=
  robF_heavy H hk fun w1 U' hE H1 => heavy_val (op_buildSlice ho) ⟨alloc_ext _ _, K _ _ _ (HS.swap (H1.alloc e cells))⟩

/-- The room. -/
theorem robF_room {t : TypeId} {v : Value} (H : HS w0 w (Ck.fr U :: L)) (hk : fltRoom P σ = true) (ho : allocArg P (opOf σ) = some (t, v))
    (K : ∀ b w' U' wF, Ext w w' → HS w0 w' (Ck.fr U' :: Ck.blk b t v.cells :: L) → RobCF P B U' (upd hist (pcOf σ + 1) wF) (advF P fuel (nxt σ (.pointer (some ⟨b, 0, none⟩)))) w') : RobCF P B U hist σ w := by
  obtain ⟨tt, a⟩ := σ
  unfold fltRoom at hk
  simp only at hk
  split at hk
  · rename_i ops i r k
    show RobF P B ops k (i :: r) U hist a w
    unfold RobF
    rw [if_pos (by rw [List.any_cons, hk]; rfl)]
    unfold OneF
    rw [if_pos hk]
    intro w1 hE b wF hb ⟨q, hq, hB⟩
    have : q = (t, v) := Option.some.inj (hq.symm.trans ho)
    subst this
    exact robF_adv (σ := (.inRegion ops r :: k, a.put (ops.getD i default).dst (.pointer (some ⟨b, 0, none⟩)))) fuel (K b w1 _ wF hE ((H.gap hE).room hb hB))
  · cases hk

/-- No room is left to be made. -/
theorem robF_out (H : HS w0 w (Ck.fr U :: L)) (hk : fltOut P σ = true) (K : HS w0 w L → RobC P B hist (advD P fuel σ) w) : RobCF P B U hist σ w := by
  have h' := rob_adv fuel (K H.drop)
  obtain ⟨t, a⟩ := σ
  unfold fltOut at hk
  simp only at hk
  split at hk
  · rename_i ops l k
    show RobF P B ops k l U hist a w
    rw [robF_plain (by simpa using hk)]
    exact h'
  · cases hk

end
end Go.PM
