/- Rows that grow, rows that are cut and read; what a function gives back. -/
import Derived.Test.YthmajhdemooecaaX3
namespace Go.PM
set_option linter.unusedVariables false
set_option linter.unusedSimpArgs false
open Go.RowKit

section
variable {α β : Type} {P : Program}

theorem HS.opn {w0 w : World} {L : List Ck} {c : Ck} (h : HS w0 w (c :: L)) : ∃ S, c.h w S ∧ (∀ k, S k → w0.heap.size ≤ k ∧ k < w.heap.size) ∧
    ∀ w' c' S', c'.h w' S' → (∀ k, S' k → S k ∨ w.heap.size ≤ k) → Chg w w' S → HS w0 w' (c' :: L) := by
  obtain ⟨h0, hsep⟩ := h
  obtain ⟨S, h1, h2, h3⟩ := Sep.trim hsep
  refine ⟨S, h1, fun k hk => h2 k hk, fun w' c' S' h4 h5 h6 => ?_⟩
  refine ⟨⟨h6.os.trans h0.os, h6.tape.trans h0.tape, h6.output.trans h0.output, Nat.le_trans h0.size h6.size, fun k hk => ?_⟩, S', h4, fun k hk => ?_, ?_⟩
  · exact (h6.block k (Nat.lt_of_lt_of_le hk h0.size) fun hs => absurd (h2 k hs).1 (by omega)).trans (h0.block k hk)
  · rcases h5 k hk with hk | hk
    · exact (h2 k hk).1
    · exact Nat.le_trans h0.size hk
  · refine Sep.mono (Sep.keep h3 fun k hk hl => h6.block k hl hk.2) fun k hk => ⟨hk.1.1, fun hs => ?_⟩
    rcases h5 k hs with hs | hs
    · exact hk.2 hs
    · exact absurd hk.1.2 (by omega)

/-! ### append -/

/-- The slice type t has elements of type e, of size sz. -/
def chkRow (P : Program) (t e : TypeId) (sz : Nat) : Bool :=
  match P.underlying t, P.info? e with
  | some (.slice e'), some i => e' == e && i.size == sz && decide (0 < sz) && (match i.zero with | some z => z.cells.size == sz | none => false) && decide (i.bytes ≤ 1024)
  | _, _ => false

theorem chkRow_spec {t e : TypeId} {sz : Nat} (h : chkRow P t e sz = true) : ∃ i z, P.underlying t = some (.slice e) ∧ P.info? e = some i ∧ i.zero = some z ∧ i.size = sz ∧ z.cells.size = sz ∧ 0 < sz ∧ i.bytes ≤ 1024 := by
  unfold chkRow at h
  split at h
  · rename_i e' i hu hi
    simp only [Bool.and_eq_true, beq_iff_eq, decide_eq_true_eq] at h
    obtain ⟨⟨⟨⟨rfl, h2⟩, h3⟩, h4⟩, h5⟩ := h
    split at h4
    · rename_i z hz
      exact ⟨i, z, hu, hi, hz, h2, by simpa using h4, h3, h5⟩
    · cases h4
  · cases h

def appArg (a : Act) (o : Oper) : Option (TypeId × TypeId × Value × Value) :=
  match o.op with
  | .call { callee := .builtin .append, args, argTypes } =>
    match args.toList, argTypes.toList with
    | [s, x], [t, t'] => some (t, t', a.eval s, a.eval x)
    | _, _ => none
  | _ => none

theorem op_append {a : Act} {o : Oper} {t t' : TypeId} {s x v' : Value} {w w' : World} (ho : appArg a o = some (t, t', s, x))
    (h : ∀ ty, (Builtin.append_ #[t, t'] ty #[s, x]).run P w = .ok v' w') : (execOp a.eval o).run P w = .ok (.value v') w' := by
  unfold appArg at ho
  split at ho
  · rename_i args ats hop
    split at ho
    · rename_i s' x' u u' h1 h2
      simp only [Option.some.injEq, Prod.mk.injEq] at ho
      obtain ⟨rfl, rfl, rfl, rfl⟩ := ho
      have h1' : args = #[s', x'] := Array.ext' h1
      have h2' : ats = #[u, u'] := Array.ext' h2
      subst h1' h2'
      unfold execOp
      rw [hop]
      have hm : (#[s', x'] : Array Operand).map a.eval = #[a.eval s', a.eval x'] := by simp
      show Sem.run P (resolve a.eval { callee := .builtin .append, args := #[s', x'], argTypes := #[u, u'] } o.type >>= fun d => invoke d.target d.args) w = _
      rw [bind_ok (a := { target := .builtin .append #[u, u'] o.type ((#[s', x'] : Array Operand).map fun | .const _ => true | _ => false), args := (#[s', x'] : Array Operand).map a.eval }) (w' := w) rfl, hm]
      show Sem.run P (Builtin.append_ #[u, u'] o.type #[a.eval s', a.eval x'] >>= fun v => pure (Next.value v)) w = _
      rw [bind_ok (h o.type)]
      rfl
    · cases ho
  · cases ho

/-- append(s, x..): the cells of a row that is owned. -/
theorem HS.app_row {w0 w : World} {L : List Ck} {t e : TypeId} {sz n : Nat} {v : Value} {cs : List Value} (h : HS w0 w (Ck.row e sz v n cs :: L)) (hT : chkRow P t e sz = true)
    {b o m c : Nat} {news : List Value} (hl : news.length = m * sz) (hnews : ∀ j u, news[j]? = some u → w.cell? ⟨b, o + j, none⟩ = some u) (h1 : ∀ u ∈ news, u.oneCell' = true) (hb : n + m ≤ 137438953472) :
    ∃ v' w', (∀ ty, (Builtin.append_ #[t, t] ty #[v, .slice (some ⟨b, o, none⟩) m c]).run P w = .ok v' w') ∧ HS w0 w' (Ck.row e sz v' (n + m) (cs ++ news) :: L) ∧ Chg w w' (fun k => v.ownBlock = some k) ∧
      (v'.ownBlock = v.ownBlock ∨ v'.ownBlock = some w.heap.size) := by
  obtain ⟨S, ⟨ho, hS⟩, hb', hup⟩ := h.opn
  obtain ⟨i, z, ht, hi, hz, hsize, hzs, hsz, hby⟩ := chkRow_spec hT
  obtain ⟨v', w', hr, ho', hg, -, hat⟩ := run_append_own_at (P := P) w 0 t 0 e i z sz i.bytes ht hi hz hsize rfl hzs hsz v n cs ho ⟨b, o, none⟩ m c news hl (fun j u hj => by rw [add_off]; exact hnews j u hj) h1
    (by unfold maxLen; omega) (by calc (n + m) * i.bytes ≤ 137438953472 * 1024 := Nat.mul_le_mul hb hby
                                   _ ≤ _ := by decide) (Nat.zero_le _)
  refine ⟨v', w', fun ty => hr, hup w' _ (fun k => S k ∨ k = w.heap.size) ⟨ho', fun k hk => ?_⟩ (fun k hk => hk.imp id (by omega)) ((Chg.of_grown hg).mono fun k hk => hS k hk), Chg.of_grown hg, hat⟩
  rcases hat with hat | hat
  · exact .inl (hS k (hat ▸ hk))
  · rw [hat] at hk; injection hk with hk; exact .inr hk.symm

/-- append(s, x): one more piece of data. Its cells stand in the block b. -/
theorem HS.app_own {w0 w : World} {L : List Ck} {d : Ty α} {t e : TypeId} {v : Value} {xs : List α} {x : α} {c : List Value} (h : HS w0 w (Ck.own d e v xs :: Ck.dat d c x :: L)) (hT : chkRow P t e d.sz = true)
    {b cap : Nat} {T : TypeId} (hb : Blk w b T c.toArray) (hn : xs.length + 1 ≤ 137438953472) :
    ∃ v' w', (∀ ty, (Builtin.append_ #[t, t] ty #[v, .slice (some ⟨b, 0, none⟩) 1 cap]).run P w = .ok v' w') ∧ HS w0 w' (Ck.own d e v' (xs ++ [x]) :: L) := by
  obtain ⟨S, ⟨S1, S2, ⟨cs, ⟨ho, hS⟩, hel⟩, hx, h1S, h2S, hdis⟩, hb', hup⟩ := h.merge.opn
  obtain ⟨i, z, ht, hi, hz, hsize, hzs, hsz, hby⟩ := chkRow_spec hT
  have hcl : c.length = 1 * d.sz := by rw [d.len hx, Nat.one_mul]
  obtain ⟨v', w', hr, ho', hg, -, hat⟩ := run_append_own_at (P := P) w 0 t 0 e i z d.sz i.bytes ht hi hz hsize rfl hzs hsz v xs.length cs ho ⟨b, 0, none⟩ 1 cap c hcl
    (fun j u hj => by rw [add_off, Nat.zero_add, hb.cell]; simpa using hj) (d.one hx)
    (by unfold maxLen; omega) (by calc (xs.length + 1) * i.bytes ≤ 137438953472 * 1024 := Nat.mul_le_mul hn hby
                                   _ ≤ _ := by decide) (Nat.zero_le _)
  have hsame : ∀ k, k < w.heap.size → v.ownBlock ≠ some k → w'.heap[k]? = w.heap[k]? := fun k hk hne => hg.block k hk (fun he => hne he.symm)
  have hnew : ∀ k, k < w.heap.size → v.ownBlock ≠ some k → v'.ownBlock ≠ some k := by
    intro k hk hne he
    rcases hat with hat | hat
    · exact hne (hat ▸ he)
    · rw [hat] at he; injection he with he; omega
  refine ⟨v', w', fun ty => hr, hup w' (Ck.own d e v' (xs ++ [x])) (fun k => S k ∨ k = w.heap.size) ⟨cs ++ c, ⟨by rw [List.length_append, List.length_singleton]; exact ho', fun k hk => ?_⟩, ?_⟩ (fun k hk => hk.imp id (by omega)) ((Chg.of_grown hg).mono fun k hk => h1S k (hS k hk))⟩
  · rcases hat with hat | hat
    · exact .inl (h1S k (hS k (hat ▸ hk)))
    · rw [hat] at hk; injection hk with hk; exact .inr hk.symm
  · intro j y hj
    rcases Nat.lt_or_ge j xs.length with hlt | hge
    · rw [List.getElem?_append_left hlt] at hj
      obtain ⟨c', h3, h4⟩ := hel j y hj
      refine ⟨c', ?_, fun i u hi => ?_⟩
      · have h5 := d.trim h3
        refine d.mono (d.loc h5 fun k hk hl => hsame k hk.2 hk.1.2) fun k hk => ⟨.inl (h1S k hk.1.1), hnew k hk.2 hk.1.2⟩
      · have := h4 i u hi
        rw [List.getElem?_append_left (List.getElem?_eq_some_iff.1 this).1]; exact this
    · have hj0 : j = xs.length := by
        have := (List.getElem?_eq_some_iff.1 hj).1
        simp at this; omega
      subst hj0
      rw [List.getElem?_append_right (Nat.le_refl _)] at hj
      simp at hj
      subst hj
      refine ⟨c, ?_, fun i u hi => ?_⟩
      · have h5 := d.trim hx
        have hne : ∀ k, S2 k → v.ownBlock ≠ some k := fun k hk he => hdis k (hS k he) hk
        exact d.mono (d.loc h5 fun k hk hl => hsame k hk.2 (hne k hk.1)) fun k hk => ⟨.inl (h2S k hk.1), hnew k hk.2 (hne k hk.1)⟩
      · have hcsl : cs.length = xs.length * d.sz := ho.1
        rw [List.getElem?_append_right (by omega), hcsl, show xs.length * d.sz + i - xs.length * d.sz = i from by omega]; exact hi

/-- A kind that leads nowhere. -/
def Ty.Flat (d : Ty α) : Prop := ∀ w w' S S' x cs, d.K w S x cs → d.K w' S' x cs
theorem Ty.flat_scalar (enc : α → Value) (h1 : ∀ x, (enc x).oneCell' = true) (ok : α → Prop) : (Ty.scalar enc h1 ok).Flat := fun _ _ _ _ _ _ h => h

theorem cells_of_row {d : Ty α} {w : World} {S : Nat → Prop} {b o : Nat} : ∀ {xs : List α}, Row d w S b o xs → ∃ cs : List Value, cs.length = xs.length * d.sz ∧ (∀ u ∈ cs, u.oneCell' = true) ∧ (∀ j u, cs[j]? = some u → w.cell? ⟨b, o + j, none⟩ = some u) ∧
    ∀ j x, xs[j]? = some x → ∃ c, d.K w S x c ∧ ∀ i u, c[i]? = some u → cs[j * d.sz + i]? = some u := by
  intro xs
  induction xs generalizing o with
  | nil => intro _; exact ⟨[], by simp, by simp, by simp, by simp⟩
  | cons x xs ih =>
    intro h
    obtain ⟨c, hc, hcc⟩ := h 0 x rfl
    obtain ⟨cs, h1, h2, h3, h4⟩ := ih (o := o + d.sz) (fun j y hj => by
      obtain ⟨c', h5, h6⟩ := h (j + 1) y (by simpa using hj)
      refine ⟨c', h5, fun i u hi => ?_⟩
      have := h6 i u hi
      rwa [show o + (j + 1) * d.sz + i = o + d.sz + j * d.sz + i from by rw [Nat.add_mul]; omega] at this)
    have hl := d.len hc
    refine ⟨c ++ cs, by simp [h1, hl, Nat.add_mul]; omega, fun u hu => ?_, fun j u hj => ?_, fun j y hj => ?_⟩
    · rcases List.mem_append.1 hu with hu | hu
      · exact d.one hc u hu
      · exact h2 u hu
    · rcases Nat.lt_or_ge j c.length with hlt | hge
      · rw [List.getElem?_append_left hlt] at hj
        have := hcc j u hj
        simpa using this
      · rw [List.getElem?_append_right hge] at hj
        have := h3 _ u hj
        rwa [show o + d.sz + (j - c.length) = o + j from by omega] at this
    · cases j with
      | zero =>
        simp at hj; subst hj
        refine ⟨c, hc, fun i u hi => ?_⟩
        rw [Nat.zero_mul, Nat.zero_add, List.getElem?_append_left (List.getElem?_eq_some_iff.1 hi).1]; exact hi
      | succ j =>
        obtain ⟨c', h5, h6⟩ := h4 j y (by simpa using hj)
        refine ⟨c', h5, fun i u hi => ?_⟩
        rw [List.getElem?_append_right (by rw [hl, Nat.add_mul]; omega), hl, show (j + 1) * d.sz + i - d.sz = j * d.sz + i from by rw [Nat.add_mul]; omega]
        exact h6 i u hi

/-- append(s, ys..) of elements that lead nowhere. -/
theorem HS.app_all {w0 w : World} {L : List Ck} {d : Ty α} (hd : d.Flat) {t e : TypeId} {v : Value} {xs ys : List α} (h : HS w0 w (Ck.own d e v xs :: L)) (hT : chkRow P t e d.sz = true)
    {y : Value} {S0 : Nat → Prop} (hy : Sl d w S0 ys y) (hn : xs.length + ys.length ≤ 137438953472) :
    ∃ v' w', (∀ ty, (Builtin.append_ #[t, t] ty #[v, y]).run P w = .ok v' w') ∧ HS w0 w' (Ck.own d e v' (xs ++ ys) :: L) := by
  obtain ⟨S, ⟨cs, ⟨ho, hS⟩, hel⟩, hb', hup⟩ := h.opn
  obtain ⟨i, z, ht, hi, hz, hsize, hzs, hsz, hby⟩ := chkRow_spec hT
  obtain ⟨A, c, rfl, h2, h3, h4, h5⟩ := hy
  have done : ∀ (ad : Addr) (news : List Value), A = some ad → news.length = ys.length * d.sz → (∀ u ∈ news, u.oneCell' = true) → (∀ j u, news[j]? = some u → w.cell? (ad.add j) = some u) →
      (∀ j x, ys[j]? = some x → ∃ c, d.K w S0 x c ∧ ∀ i u, c[i]? = some u → news[j * d.sz + i]? = some u) →
      ∃ v' w', (∀ ty, (Builtin.append_ #[t, t] ty #[v, .slice A ys.length c]).run P w = .ok v' w') ∧ HS w0 w' (Ck.own d e v' (xs ++ ys) :: L) := by
    intro ad news hA hl h1 hnews hn2
    subst hA
    obtain ⟨v', w', hr, ho', hg, -, hat⟩ := run_append_own_at (P := P) w 0 t 0 e i z d.sz i.bytes ht hi hz hsize rfl hzs hsz v xs.length cs ho ad ys.length c news hl hnews h1
      (by unfold maxLen; omega) (by calc (xs.length + ys.length) * i.bytes ≤ 137438953472 * 1024 := Nat.mul_le_mul hn hby
                                     _ ≤ _ := by decide) (Nat.zero_le _)
    refine ⟨v', w', fun ty => hr, hup w' (Ck.own d e v' (xs ++ ys)) (fun k => S k ∨ k = w.heap.size) ⟨cs ++ news, ⟨by rw [List.length_append]; exact ho', fun k hk => ?_⟩, ?_⟩ (fun k hk => hk.imp id (by omega)) ((Chg.of_grown hg).mono fun k hk => hS k hk)⟩
    · rcases hat with hat | hat
      · exact .inl (hS k (hat ▸ hk))
      · rw [hat] at hk; injection hk with hk; exact .inr hk.symm
    · have hcsl : cs.length = xs.length * d.sz := ho.1
      intro j y hj
      rcases Nat.lt_or_ge j xs.length with hlt | hge
      · rw [List.getElem?_append_left hlt] at hj
        obtain ⟨c', h6, h7⟩ := hel j y hj
        refine ⟨c', hd _ _ _ _ _ _ h6, fun i u hi => ?_⟩
        have := h7 i u hi
        rw [List.getElem?_append_left (List.getElem?_eq_some_iff.1 this).1]; exact this
      · rw [List.getElem?_append_right hge] at hj
        obtain ⟨c', h6, h7⟩ := hn2 _ y hj
        refine ⟨c', hd _ _ _ _ _ _ h6, fun i u hi => ?_⟩
        have := h7 i u hi
        have hmul : j * d.sz = xs.length * d.sz + (j - xs.length) * d.sz := by rw [← Nat.add_mul]; congr 1; omega
        rw [List.getElem?_append_right (by omega), hcsl, show j * d.sz + i - xs.length * d.sz = (j - xs.length) * d.sz + i from by omega]; exact this
  cases A with
  | none =>
    have hc : c = 0 := h4 rfl
    have hys : ys = [] := List.length_eq_zero_iff.1 (by omega)
    subst hys hc
    refine ⟨v, w, fun ty => run_append_owned_none (P := P) w 0 t ty e i d.sz ht hi v _ cs ho, ?_⟩
    rw [List.append_nil]; exact h
  | some ad =>
    rcases Nat.eq_zero_or_pos ys.length with h0 | hp
    · have hys : ys = [] := List.length_eq_zero_iff.1 h0
      subst hys
      exact done ad [] rfl (by simp) (by simp) (by simp) (by simp)
    · obtain ⟨b, o, h6, h7, h8, h9⟩ := h5 hp
      injection h6 with h6
      subst h6
      obtain ⟨news, g1, g2, g3, g4⟩ := cells_of_row h9
      exact done _ news rfl g1 g2 (fun j u hj => by rw [add_off]; exact g3 j u hj) g4

/-! ### rows made in one go -/

def bsArg (P : Program) (a : Act) (o : Oper) : Option (TypeId × Nat × Array Value) :=
  match o.op with
  | .buildSlice t len parts =>
    match P.underlying t with
    | some (.slice e) =>
      match sizeT P e, zeroT P e with
      | some size, some z =>
        if len * size > 2 ^ 24 then none
        else match Instr.fill (fun i => some (i * size, size)) ((Array.range (len * size)).map (fun x => (if len * size = 0 then #[] else z.cells)[x % (if len * size = 0 then #[] else z.cells : Array Value).size]!)) (parts.map fun (i, x) => (i, a.eval x)).toList with
          | some cells => some (e, len, cells)
          | none => none
      | _, _ => none
    | _ => none
  | _ => none

theorem run_underlying' {t : TypeId} {d : TypeDesc} (h : P.underlying t = some d) (w : World) : (underlying t).run P w = .ok d w := by
  unfold underlying program
  show Sem.run P (Sem.bind (.program .pure) _) w = _
  simp only [Sem.bind, Sem.run, h]
  rfl

theorem op_buildSlice {a : Act} {o : Oper} {e : TypeId} {len : Nat} {cells : Array Value} {w : World} (ho : bsArg P a o = some (e, len, cells)) :
    (execOp a.eval o).run P w = .ok (.value (.slice (some ⟨w.heap.size, 0, none⟩) len len)) (w.alloc (.cells cells e)) := by
  unfold bsArg at ho
  split at ho
  · rename_i t n parts hop
    split at ho
    · rename_i e' hu
      split at ho
      · rename_i size z hs hz
        split at ho
        · cases ho
        · rename_i hle
          split at ho
          · rename_i cs hf
            simp only [Option.some.injEq, Prod.mk.injEq] at ho
            obtain ⟨rfl, rfl, rfl⟩ := ho
            unfold execOp
            rw [hop]
            show Sem.run P (Instr.buildSlice t n (parts.map fun (i, x) => (i, a.eval x)) >>= _) w = _
            rw [bind_ok (a := Value.slice (some ⟨w.heap.size, 0, none⟩) n n) (w' := w.alloc (.cells cs e'))]
            · rfl
            · unfold Instr.buildSlice
              rw [bind_ok (run_underlying' hu w)]
              simp only
              rw [bind_ok (run_sizeOf hs w)]
              rw [if_neg hle]
              by_cases h0 : n * size = 0
              · simp only [h0, if_true] at hf ⊢
                rw [bind_ok (a := (#[] : Array Value)) (w' := w) rfl]
                rw [hf]
                rfl
              · simp only [h0, if_false] at hf ⊢
                rw [bind_ok (run_zeroValue hz w)]
                rw [bind_ok (a := z.cells) (w' := w) rfl]
                rw [hf]
                rfl
          · cases ho
      · cases ho
    · cases ho
  · cases ho

/-- The row that was made of no cells. -/
theorem HS.made0 {w0 w : World} {L : List Ck} (h : HS w0 w L) (d : Ty α) (e : TypeId) : HS w0 (w.alloc (.cells #[] e)) (Ck.own d e (.slice (some ⟨w.heap.size, 0, none⟩) 0 0) ([] : List α) :: L) := by
  refine h.new (alloc_ext w _) (S := fun k => k = w.heap.size) ⟨[], ⟨?_, fun b hb => ?_⟩, fun j x hj => by simp at hj⟩ fun k hk => by omega
  · exact ⟨by simp, .inr ⟨w.heap.size, 0, #[], rfl, Nat.zero_le _, alloc_blk w e #[], Nat.le_refl _, by simp [maxLen], by simp, by simp⟩⟩
  · simp [Value.ownBlock] at hb; exact hb.symm

/-! ### reading a slice -/

def idxArg (a : Act) (o : Oper) : Option (TypeId × Value × Value) := match o.op with | .indexAddr t x i => some (t, a.eval x, a.eval i) | _ => none

theorem op_index {a : Act} {o : Oper} {t e : TypeId} {sz b off n c : Nat} {k : IntKind} {i : Int} {w : World} (ho : idxArg a o = some (t, .slice (some ⟨b, off, none⟩) n c, .int k i))
    (hu : P.underlying t = some (.slice e)) (hs : sizeT P e = some sz) (h0 : 0 ≤ i) (h1 : i < n) :
    (execOp a.eval o).run P w = .ok (.value (.pointer (some ⟨b, off + i.toNat * sz, none⟩))) w := by
  unfold idxArg at ho
  split at ho
  · rename_i t' x y hop
    simp only [Option.some.injEq, Prod.mk.injEq] at ho
    obtain ⟨rfl, hx, hy⟩ := ho
    unfold execOp
    rw [hop]
    simp only [hx, hy]
    rw [bind_ok (a := Value.pointer (some ⟨b, off + i.toNat * sz, none⟩)) (w' := w)]
    · rfl
    · unfold Instr.indexAt
      rw [bind_ok (a := (k, i)) (w' := w) rfl]
      simp only
      rw [bind_ok (run_underlying' hu w)]
      simp only
      rw [bind_ok (a := (some (⟨b, off, none⟩ : Addr), n, e)) (w' := w) rfl]
      simp only
      rw [bind_ok (run_underlying' hu w)]
      simp only
      rw [if_pos ⟨h0, h1⟩, bind_ok (run_sizeOf hs w), add_off]
      rfl
  · cases ho

def sliceArg (a : Act) (o : Oper) : Option (TypeId × Value × Option Value × Option Value × Option Value) := match o.op with | .slice t x l h m => some (t, a.eval x, l.map a.eval, h.map a.eval, m.map a.eval) | _ => none

theorem run_bound {k : IntKind} {i : Int} {y : Nat} {code : BoundsCode} (h0 : 0 ≤ i) (h1 : i ≤ y) (w : World) : (Instr.sliceBound (.int k i) y code).run P w = .ok i.toNat w := by
  unfold Instr.sliceBound
  rw [bind_ok (a := (k, i)) (w' := w) rfl]
  simp only
  rw [if_pos ⟨h0, h1⟩]
  rfl

/-- s[l:h] -/
theorem op_slice {a : Act} {o : Oper} {t e : TypeId} {sz n c : Nat} {A : Option Addr} {lo hi : Option Value} {l h : Nat} {w : World} (ho : sliceArg a o = some (t, .slice A n c, lo, hi, none))
    (hu : P.underlying t = some (.slice e)) (hs : sizeT P e = some sz)
    (hlo : (lo = none ∧ l = 0) ∨ ∃ k i, lo = some (.int k i) ∧ i = (l : Int)) (hhi : (hi = none ∧ h = n) ∨ ∃ k i, hi = some (.int k i) ∧ i = (h : Int)) (h1 : l ≤ h) (h2 : h ≤ c) :
    (execOp a.eval o).run P w = .ok (.value (.slice (if c = l then A else A.map (·.add (l * sz))) (h - l) (c - l))) w := by
  unfold sliceArg at ho
  split at ho
  · rename_i t' x lo' hi' mx' hop
    simp only [Option.some.injEq, Prod.mk.injEq] at ho
    obtain ⟨rfl, hx, hl', hh', hm'⟩ := ho
    unfold execOp
    rw [hop]
    simp only [hx, hl', hh', hm']
    rw [bind_ok (a := Value.slice (if c = l then A else A.map (·.add (l * sz))) (h - l) (c - l)) (w' := w)]
    · rfl
    · unfold Instr.sliceAt
      rw [bind_ok (run_underlying' hu w)]
      simp only
      unfold Instr.slice
      rw [bind_ok (run_underlying' hu w)]
      simp only
      rw [bind_ok (a := (l, h, c)) (w' := w)]
      · simp only
        rw [bind_ok (run_sizeOf hs w)]
        rfl
      · have hb1 : ∀ (k : IntKind) (code : BoundsCode) (w : World), (Instr.sliceBound (.int k (l : Int)) h code).run P w = .ok l w := fun k code w => by
          have := run_bound (P := P) (k := k) (code := code) (i := (l : Int)) (y := h) (by omega) (by omega) w
          simpa using this
        have hb2 : ∀ (k : IntKind) (code : BoundsCode) (w : World), (Instr.sliceBound (.int k (h : Int)) c code).run P w = .ok h w := fun k code w => by
          have := run_bound (P := P) (k := k) (code := code) (i := (h : Int)) (y := c) (by omega) (by omega) w
          simpa using this
        unfold Instr.sliceBounds
        rcases hlo with ⟨rfl, rfl⟩ | ⟨k, i, rfl, rfl⟩ <;> rcases hhi with ⟨rfl, rfl⟩ | ⟨k', i', rfl, rfl⟩
        · rfl
        · rw [bind_ok (a := c) (w' := w) rfl]
          simp only
          rw [bind_ok (hb2 _ _ w)]
          rfl
        · rw [bind_ok (a := c) (w' := w) rfl]
          simp only
          rw [bind_ok (a := h) (w' := w) rfl]
          rw [bind_ok (hb1 _ _ w)]
          rfl
        · rw [bind_ok (a := c) (w' := w) rfl]
          simp only
          rw [bind_ok (hb2 _ _ w)]
          rw [bind_ok (hb1 _ _ w)]
          rfl
  · cases ho

/-! ### what a function gives back -/

/-- The value of a result variable. -/
def RV (P : Program) (tmps : Array Value) (w : World) : ResultVar → Value → Prop
  | .tmp t, v => tmps.getD t undef = v
  | .cell p ty, v => ∃ b, tmps.getD p undef = .pointer (some b) ∧ (loadVar ty b).run P w = .ok v w

theorem rv_tmp {tmps : Array Value} {w : World} {t : Tmp} {v : Value} (h : tmps.getD t undef = v) : RV P tmps w (.tmp t) v := h
theorem rv_cell {tmps : Array Value} {w : World} {p b : Nat} {ty T : TypeId} {cs : Array Value} {v : Value} (hb : Blk w b T cs) (h : tmps.getD p undef = .pointer (some ⟨b, 0, none⟩)) (hv : ldv P ty cs 0 = some v) : RV P tmps w (.cell p ty) v :=
  ⟨_, h, run_loadVar_blk hb hv⟩

def RVs (P : Program) (tmps : Array Value) (w : World) : List ResultVar → List Value → Prop
  | [], [] => True
  | r :: rs, v :: vs => RV P tmps w r v ∧ RVs P tmps w rs vs
  | _, _ => False

theorem rvs_run {tmps : Array Value} {w : World} (f : ResultVar → Sem Value) (hf : ∀ u, f (.tmp u) = pure (tmps.getD u undef)) (hc : ∀ a t, f (.cell a t) = (do loadVar t (← asAddr (tmps.getD a undef)))) :
    ∀ {rs : List ResultVar} {vs : List Value}, RVs P tmps w rs vs → (rs.mapM f).run P w = .ok vs w := by
  intro rs
  induction rs with
  | nil => intro vs h; cases vs with
    | nil => simp
    | cons v vs => exact h.elim
  | cons r rs ih =>
    intro vs h
    cases vs with
    | nil => exact h.elim
    | cons v vs =>
      obtain ⟨h1, h2⟩ := h
      rw [List.mapM_cons, bind_ok (a := v) (w' := w), bind_ok (ih h2)]
      · rfl
      · cases r with
        | tmp t => simp only [RV] at h1; rw [hf, h1]; rfl
        | cell p ty =>
          obtain ⟨b, h3, h4⟩ := h1
          rw [hc, h3, bind_ok (a := b) (w' := w) rfl]
          exact h4

theorem res1 {fn : Func} {tmps : Array Value} {w : World} {r : ResultVar} {v : Value} (hf : fn.results = #[r]) (h : RV P tmps w r v) : (results fn tmps).run P w = .ok v w := by
  unfold results
  rw [show fn.results = [r].toArray from hf, List.mapM_toArray]
  simp only [Sem.run_bind, Sem.run_map]
  rw [rvs_run _ (fun _ => rfl) (fun _ _ => rfl) (vs := [v]) (rs := [r]) (show RVs P tmps w [r] [v] from ⟨h, trivial⟩)]
  simp

theorem resN {fn : Func} {rs : List ResultVar} {vs : List Value} {tmps : Array Value} {w : World} (hf : fn.results = rs.toArray) (hl : vs.length ≠ 1) (h : RVs P tmps w rs vs) : (results fn tmps).run P w = .ok (.tuple vs.toArray) w := by
  unfold results
  rw [hf, List.mapM_toArray]
  simp only [Sem.run_bind, Sem.run_map]
  rw [rvs_run _ (fun _ => rfl) (fun _ _ => rfl) h]
  simp [hl]

end
end Go.PM
