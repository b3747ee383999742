/- '==' of structs and arrays of whole numbers. -/
import Derived.Test.YthmajhdemooecaaX7
import Derived.DeepKeys
namespace Go.PM
set_option linter.unusedVariables false
set_option linter.unusedSimpArgs false
open Go.RowKit

section
variable {P : Program}

def kindsF (g : TypeId → Option (List IntKind)) (cells : TypeId → Nat) : Nat → List Field → Option (List IntKind)
  | _, [] => some []
  | o, f :: fs =>
    match g f.type, kindsF g cells (o + cells f.type) fs with
    | some a, some b => if f.offset = o ∧ a.length = cells f.type then some (a ++ b) else none
    | _, _ => none
/-- The kinds of the whole numbers that a type is made of, cell by cell. -/
def kindsT (P : Program) : Nat → TypeId → Option (List IntKind)
  | 0, _ => none
  | d + 1, t =>
    match P.underlying t with
    | some (.int q) => some [q]
    | some (.array n e) => (match kindsT P d e with | some l => if l.length = P.cellsOf e ∧ P.cellsOf t = n * P.cellsOf e then some (List.replicate n l).flatten else none | none => none)
    | some (.struct fs) => (match kindsF (kindsT P d) P.cellsOf 0 fs.toList with | some l => if fs.all (·.name != "_") = true ∧ P.cellsOf t = l.length then some l else none | none => none)
    | _ => none

theorem mapM_congr {γ δ : Type} {f g : γ → Option δ} : ∀ {l : List γ}, (∀ x ∈ l, f x = g x) → l.mapM f = l.mapM g
  | [], _ => rfl
  | x :: l, h => by rw [List.mapM_cons, List.mapM_cons, h x (by simp), mapM_congr fun y hy => h y (List.mem_cons_of_mem _ hy)]

def litV : Value → Lit
  | .int k n => .int k n
  | _ => .bool false

/-- Whole numbers of these kinds. -/
def IntsOf : List IntKind → List Value → Prop
  | [], [] => True
  | k :: ks, v :: vs => (∃ n, v = .int k n ∧ (Lit.int k n).wf = true) ∧ IntsOf ks vs
  | _, _ => False

theorem IntsOf.length : ∀ {ks : List IntKind} {vs : List Value}, IntsOf ks vs → vs.length = ks.length
  | [], [], _ => rfl
  | _ :: _, _ :: _, h => by simp [IntsOf.length h.2]
  | [], _ :: _, h => h.elim
  | _ :: _, [], h => h.elim
theorem IntsOf.split : ∀ {ks ls : List IntKind} {vs : List Value}, IntsOf (ks ++ ls) vs → IntsOf ks (vs.take ks.length) ∧ IntsOf ls (vs.drop ks.length)
  | [], ls, vs, h => by simpa [IntsOf] using h
  | k :: ks, ls, [], h => h.elim
  | k :: ks, ls, v :: vs, h => by
    have := IntsOf.split h.2
    exact ⟨⟨h.1, by simpa using this.1⟩, by simpa using this.2⟩
theorem IntsOf.append : ∀ {ks ls : List IntKind} {vs ws : List Value}, IntsOf ks vs → IntsOf ls ws → IntsOf (ks ++ ls) (vs ++ ws)
  | [], _, [], _, _, h => h
  | _ :: _, _, _ :: _, _, h, h' => ⟨h.1, IntsOf.append h.2 h'⟩
  | [], _, _ :: _, _, h, _ => h.elim
  | _ :: _, _, [], _, h, _ => h.elim

theorem keyLits_ints : ∀ (D : Nat) (t : TypeId) (ks : List IntKind) (cs : List Value), kindsT P D t = some ks → IntsOf ks cs → P.keyLits D t cs = some (cs.map litV) := by
  intro D
  induction D with
  | zero => intro t ks cs h; simp [kindsT] at h
  | succ d ih =>
    intro t ks cs h hi
    unfold kindsT at h
    split at h
    · rename_i q hu
      injection h with h
      subst h
      match cs, hi with
      | [v], hi =>
        obtain ⟨⟨n, rfl, hw⟩, -⟩ := hi
        simp [Program.keyLits, hu, hw, litV]
    · rename_i n e hu
      split at h
      · rename_i l hl
        split at h
        · rename_i hc
          injection h with h
          subst h
          have hlen := hi.length
          simp only [List.length_flatten, List.map_replicate, List.sum_replicate_nat] at hlen
          have key : ∀ (m : Nat) (cs : List Value), IntsOf (List.replicate m l).flatten cs → ∃ ys, (List.range m).mapM (fun i => P.keyLits d e ((cs.drop (i * P.cellsOf e)).take (P.cellsOf e))) = some ys ∧ ys.flatten = cs.map litV := by
            intro m
            induction m with
            | zero => intro cs h; match cs, h with | [], _ => exact ⟨[], by simp, rfl⟩
            | succ m ihm =>
              intro cs h
              have h' : IntsOf ((List.replicate m l).flatten ++ l) cs := by
                rw [List.replicate_succ'] at h
                simpa using h
              obtain ⟨h1, h2⟩ := h'.split
              have hml : (List.replicate m l).flatten.length = m * P.cellsOf e := by simp [hc.1]
              rw [hml] at h1 h2
              obtain ⟨ys, h3, h4⟩ := ihm _ h1
              have hcs : cs.length = m * P.cellsOf e + P.cellsOf e := by
                have := h'.length; rw [this, List.length_append, hml, hc.1]
              refine ⟨ys ++ [(cs.drop (m * P.cellsOf e)).map litV], ?_, ?_⟩
              · rw [List.range_succ, List.mapM_append]
                have h5 : (List.range m).mapM (fun i => P.keyLits d e ((cs.drop (i * P.cellsOf e)).take (P.cellsOf e))) = some ys := by
                  rw [← h3]
                  apply mapM_congr
                  intro i hi
                  have him := List.mem_range.1 hi
                  have : (i + 1) * P.cellsOf e ≤ m * P.cellsOf e := Nat.mul_le_mul_right _ (by omega)
                  rw [Nat.add_mul] at this
                  rw [List.drop_take, List.take_take, Nat.min_eq_left (by omega)]
                rw [h5]
                have h6 : P.keyLits d e ((cs.drop (m * P.cellsOf e)).take (P.cellsOf e)) = some ((cs.drop (m * P.cellsOf e)).map litV) := by
                  rw [List.take_of_length_le (by simp; omega)]
                  exact ih e l _ hl h2
                simp [h6]
              · rw [List.flatten_append, h4]
                simp only [List.flatten_cons, List.flatten_nil, List.append_nil]
                rw [← List.map_append, List.take_append_drop]
          obtain ⟨ys, h1, h2⟩ := key n cs hi
          have hcl : cs.length = P.cellsOf t := by rw [hlen, hc.2, hc.1]
          have : P.keyLits (d + 1) t cs = if cs.length = P.cellsOf t then ((List.range n).mapM fun i => P.keyLits d e ((cs.drop (i * P.cellsOf e)).take (P.cellsOf e))).map List.flatten else none := by
            simp [Program.keyLits, hu]
          rw [this, if_pos hcl, h1, Option.map_some, h2]
        · cases h
      · cases h
    · rename_i fs hu
      split at h
      · rename_i l hl
        split at h
        · rename_i hc
          injection h with h
          subst h
          have key : ∀ (fl : List Field) (o : Nat) (l : List IntKind) (cs : List Value), kindsF (kindsT P d) P.cellsOf o fl = some l → o ≤ cs.length → IntsOf l (cs.drop o) → ∃ ys, fl.mapM (fun f => P.keyLits d f.type ((cs.drop f.offset).take (P.cellsOf f.type))) = some ys ∧ ys.flatten = (cs.drop o).map litV := by
            intro fl
            induction fl with
            | nil =>
              intro o l cs h ho hi
              simp [kindsF] at h
              subst h
              cases hd : cs.drop o with
              | nil => exact ⟨[], by simp, rfl⟩
              | cons v vs => rw [hd] at hi; exact hi.elim
            | cons f fl ihf =>
              intro o l cs h ho hi
              unfold kindsF at h
              split at h
              · rename_i a b ha hb
                split at h
                · rename_i hfo
                  injection h with h
                  subst h
                  obtain ⟨h1, h2⟩ := hi.split
                  rw [hfo.2] at h1 h2
                  rw [List.drop_drop] at h2
                  have hlen := hi.length
                  simp at hlen
                  obtain ⟨ys, h3, h4⟩ := ihf (o + P.cellsOf f.type) b cs hb (by omega) h2
                  refine ⟨((cs.drop o).take (P.cellsOf f.type)).map litV :: ys, ?_, ?_⟩
                  · rw [List.mapM_cons, hfo.1, ih f.type a _ ha h1, h3]
                    rfl
                  · rw [List.flatten_cons, h4, ← List.map_append]
                    congr 1
                    rw [← List.drop_drop, List.take_append_drop]
                · cases h
              · cases h
          obtain ⟨ys, h1, h2⟩ := key fs.toList 0 l cs hl (Nat.zero_le _) (by simpa using hi)
          have hcl : cs.length = P.cellsOf t := by rw [hi.length, hc.2]
          have : P.keyLits (d + 1) t cs = if cs.length = P.cellsOf t ∧ fs.all (·.name != "_") = true then (fs.toList.mapM fun f => P.keyLits d f.type ((cs.drop f.offset).take (P.cellsOf f.type))).map List.flatten else none := by
            simp [Program.keyLits, hu]
          rw [this, if_pos ⟨hcl, hc.1⟩, h1, Option.map_some, h2]
          simp
        · cases h
      · cases h
    · cases h

theorem litV_inj : ∀ {ks : List IntKind} {as bs : List Value}, IntsOf ks as → IntsOf ks bs → as.map litV = bs.map litV → as = bs
  | [], [], [], _, _, _ => rfl
  | k :: ks, a :: as, b :: bs, ha, hb, h => by
    obtain ⟨⟨n, rfl, -⟩, ha⟩ := ha
    obtain ⟨⟨m, rfl, -⟩, hb⟩ := hb
    simp only [List.map_cons, List.cons.injEq, litV, Lit.int.injEq, true_and] at h
    rw [h.1, litV_inj ha hb h.2]
  | [], _ :: _, _, h, _, _ => h.elim
  | _ :: _, [], _, h, _, _ => h.elim
  | [], [], _ :: _, _, h, _ => h.elim
  | _ :: _, _ :: _, [], _, h, _ => h.elim

/-- Two aggregates of whole numbers are the same just if their cells are. -/
theorem run_eq_ints {D m : Nat} {t : TypeId} {ks : List IntKind} {as bs : Array Value} (hk : kindsT P D t = some ks) (hm : P.keyTypeAt m t = true) (hle : m ≤ 10000) (ha : IntsOf ks as.toList) (hb : IntsOf ks bs.toList)
    (hf : (Value.agg as).formed P t = true) (hf' : (Value.agg bs).formed P t = true) (w : World) : ∃ r : Bool, (Op.equal t (.agg as) (.agg bs)).run P w = .ok r w ∧ (r = true ↔ as = bs) := by
  have := run_equalIn_deep (P := P) (10000 - m) m t hm w D D (.agg as) (.agg bs) _ _ hf hf' (keyLits_ints D t ks as.toList hk ha) (keyLits_ints D t ks bs.toList hk hb)
  rw [show 10000 - m + m = 10000 from by omega] at this
  obtain ⟨r, h1, h2⟩ := this
  refine ⟨r, h1, h2.trans ⟨fun h => ?_, fun h => by rw [h]⟩⟩
  exact Array.ext' (litV_inj ha hb h)

/-- The operands of a comparison. -/
def eqArg (a : Act) (o : Oper) : Option (BinOp × TypeId × Value × Value) := match o.op with | .binOp op t x y _ => some (op, t, a.eval x, a.eval y) | _ => none

/-- A shift to the right by a number that was reckoned. -/
theorem op_shr {a : Act} {o : Oper} {t : TypeId} {k yk : IntKind} {x y : Int} {m : Nat} {w : World} (ho : eqArg a o = some (.shr, t, .int k x, .int yk y)) (hy : y = (m : Int)) (hm : m ≤ k.bits) :
    (execOp a.eval o).run P w = .ok (.value (.int k (x.fdiv (2 ^ m)))) w := by
  subst hy
  unfold eqArg at ho
  split at ho
  · rename_i op t' x' y' ty hop
    simp only [Option.some.injEq, Prod.mk.injEq] at ho
    obtain ⟨rfl, rfl, hx, hy⟩ := ho
    unfold execOp
    rw [hop]
    simp only [hx, hy]
    rw [bind_ok (a := Value.int k (x.fdiv (2 ^ m))) (w' := w)]
    · rfl
    · rw [bind_ok (a := ()) (w' := w) rfl]
      show Sem.run P (Op.shift .shr k x yk (m : Int)) w = _
      unfold Op.shift
      rw [if_neg (by omega)]
      simp only [Int.toNat_natCast, Nat.min_eq_left hm]
      rfl
  · cases ho

theorem op_eq_ints {a : Act} {o : Oper} {D m : Nat} {t : TypeId} {ks : List IntKind} {as bs : Array Value} (ho : eqArg a o = some (.eql, t, .agg as, .agg bs)) (hg : P.eqGuardType P.depth t = false)
    (hk : kindsT P D t = some ks) (hm : P.keyTypeAt m t = true) (hle : m ≤ 10000) (ha : IntsOf ks as.toList) (hb : IntsOf ks bs.toList)
    (hf : (Value.agg as).formed P t = true) (hf' : (Value.agg bs).formed P t = true) (w : World) : ∃ r : Bool, (execOp a.eval o).run P w = .ok (.value (.bool r)) w ∧ (r = true ↔ as = bs) := by
  obtain ⟨r, h1, h2⟩ := run_eq_ints hk hm hle ha hb hf hf' w
  refine ⟨r, ?_, h2⟩
  unfold eqArg at ho
  split at ho
  · rename_i op t' x y ty hop
    simp only [Option.some.injEq, Prod.mk.injEq] at ho
    obtain ⟨rfl, rfl, hx, hy⟩ := ho
    unfold execOp
    rw [hop]
    simp only [hx, hy]
    rw [bind_ok (a := Value.bool r) (w' := w)]
    · rfl
    · rw [bind_ok (a := ()) (w' := w)]
      · show Sem.run P (Op.equal t' (.agg as) (.agg bs) >>= fun b => pure (Value.bool b)) w = _
        rw [bind_ok h1]
        rfl
      · unfold eqGuard
        simp only
        rw [if_neg (by simp)]
        rw [bind_ok (a := P) (w' := w) rfl]
        rw [bind_ok (a := P) (w' := w) rfl]
        simp only [hg]
        rfl
  · cases ho

/-- A comparison of two blocks of numbers. -/
theorem run_eqv {B : Exit → Act → World → Prop} {σ : List Item × Act} {w : World} {D m : Nat} {t : TypeId} {ks : List IntKind} {xs ys : Array Value} (hk0 : opOk σ = true) (ho : eqArg σ.2 (opOf σ) = some (.eql, t, .agg xs, .agg ys)) (hg : P.eqGuardType P.depth t = false)
    (hk : kindsT P D t = some ks) (hm : P.keyTypeAt m t = true) (hle : m ≤ 10000) (ha : IntsOf ks xs.toList) (hb : IntsOf ks ys.toList)
    (hf : (Value.agg xs).formed P t = true) (hf' : (Value.agg ys).formed P t = true) (H : ∀ r : Bool, (r = true ↔ xs = ys) → Run P B (adv P fuel (nxt σ (.bool r))) w) : Run P B σ w := by
  obtain ⟨r, h1, h2⟩ := op_eq_ints ho hg hk hm hle ha hb hf hf' w
  exact run_val hk0 h1 (H r h2)

theorem run_ifN {B : Exit → Act → World → Prop} {σ : List Item × Act} {w : World} {p : Prop} [Decidable p] (hk : isCond σ = true) (hc : σ.2.eval (condOp σ) = .bool (!decide p))
    (ht : ¬ p → Run P B (adv P fuel (condT σ)) w) (hf : p → Run P B (adv P fuel (condF σ)) w) : Run P B σ w :=
  run_cond hk hc (fun h => ht (by simpa using h)) (fun h => hf (by simpa using h))

theorem Sep.take {w : World} : ∀ (n : Nat) {L : List Ck} {U : Nat → Prop}, Sep w U L → Sep w U (L.take n)
  | 0, _, _, _ => trivial
  | _ + 1, [], _, _ => trivial
  | n + 1, _ :: _, _, ⟨S, h1, h2, h3⟩ => ⟨S, h1, h2, Sep.take n h3⟩
theorem HS.take {w0 w : World} {L : List Ck} (h : HS w0 w L) (n : Nat) : HS w0 w (L.take n) := ⟨h.1, h.2.take n⟩

/-- s[l:h:m] -/
theorem op_slice3 {a : Act} {o : Oper} {t e : TypeId} {sz n c : Nat} {A : Option Addr} {lo : Option Value} {k k' : IntKind} {ih im : Int} {l h m : Nat} {w : World} (ho : sliceArg a o = some (t, .slice A n c, lo, some (.int k ih), some (.int k' im)))
    (hu : P.underlying t = some (.slice e)) (hs : sizeT P e = some sz)
    (hlo : (lo = none ∧ l = 0) ∨ ∃ k i, lo = some (.int k i) ∧ i = (l : Int)) (eh : ih = (h : Int)) (em : im = (m : Int)) (h1 : l ≤ h) (h2 : h ≤ m) (h3 : m ≤ c) :
    (execOp a.eval o).run P w = .ok (.value (.slice (if m = l then A else A.map (·.add (l * sz))) (h - l) (m - l))) w := by
  subst eh em
  unfold sliceArg at ho
  split at ho
  · rename_i t' x lo' hi' mx' hop
    simp only [Option.some.injEq, Prod.mk.injEq] at ho
    obtain ⟨rfl, hx, hl', hh', hm'⟩ := ho
    unfold execOp
    rw [hop]
    simp only [hx, hl', hh', hm']
    rw [bind_ok (a := Value.slice (if m = l then A else A.map (·.add (l * sz))) (h - l) (m - l)) (w' := w)]
    · rfl
    · unfold Instr.sliceAt
      rw [bind_ok (run_underlying' hu w)]
      simp only
      unfold Instr.slice
      rw [bind_ok (run_underlying' hu w)]
      simp only
      rw [bind_ok (a := (l, h, m)) (w' := w)]
      · simp only
        rw [bind_ok (run_sizeOf hs w)]
        rfl
      · have hb : ∀ (k : IntKind) (x y : Nat) (hxy : x ≤ y) (code : BoundsCode) (w : World), (Instr.sliceBound (.int k (x : Int)) y code).run P w = .ok x w := fun k x y hxy code w => by
          have := run_bound (P := P) (k := k) (code := code) (i := (x : Int)) (y := y) (by omega) (by omega) w
          simpa using this
        unfold Instr.sliceBounds
        simp only
        rw [bind_ok (hb _ m c h3 _ w)]
        rw [bind_ok (hb _ h m h2 _ w)]
        rcases hlo with ⟨rfl, rfl⟩ | ⟨k, i, rfl, rfl⟩
        · rfl
        · simp only
          rw [bind_ok (hb _ l h h1 _ w)]
          rfl
  · cases ho

/-- A piece of what is read. -/
theorem Sl.cut {α : Type} {d : Ty α} {w : World} {S : Nat → Prop} {xs : List α} {A : Option Addr} {n c l h m : Nat} (hx : Sl d w S xs (.slice A n c)) (h1 : l ≤ h) (h2 : h ≤ m) (h3 : m ≤ c) (h4 : h ≤ xs.length) :
    Sl d w S ((xs.drop l).take (h - l)) (.slice (if m = l then A else A.map (·.add (l * d.sz))) (h - l) (m - l)) := by
  have hl : ((xs.drop l).take (h - l)).length = h - l := by rw [List.length_take, List.length_drop]; omega
  obtain ⟨A', c', e, g2, g3, g4, g5⟩ := hx
  injection e with e1 e2 e3
  subst e1 e3
  refine ⟨_, _, by rw [hl], by rw [hl]; omega, by omega, fun hn => ?_, fun hp => ?_⟩
  · split at hn
    · omega
    · cases A with
      | none => have := g4 rfl; omega
      | some a => cases hn
  · rw [hl] at hp
    obtain ⟨b, o, rfl, g6, g7, g8⟩ := g5 (by omega)
    refine ⟨b, o + l * d.sz, ?_, g6, g7, fun j x hj => ?_⟩
    · rw [if_neg (by omega), Option.map_some, add_off]
    · rw [List.getElem?_take] at hj
      split at hj
      · rw [List.getElem?_drop] at hj
        obtain ⟨cs, k1, k2⟩ := g8 (l + j) x hj
        refine ⟨cs, k1, fun i v hi => ?_⟩
        have := k2 i v hi
        rw [Nat.add_mul] at this
        rw [← this]
        congr 2
        omega
      · cases hj

theorem op_slice3' {a : Act} {o : Oper} {t e : TypeId} {sz n c : Nat} {A A' : Option Addr} {lo : Option Value} {k k' : IntKind} {ih im : Int} {l h m n' m' : Nat} {w : World} (ho : sliceArg a o = some (t, .slice A n c, lo, some (.int k ih), some (.int k' im)))
    (hu : P.underlying t = some (.slice e)) (hs : sizeT P e = some sz)
    (hlo : (lo = none ∧ l = 0) ∨ ∃ k i, lo = some (.int k i) ∧ i = (l : Int)) (eh : ih = (h : Int)) (em : im = (m : Int)) (h1 : l ≤ h) (h2 : h ≤ m) (h3 : m ≤ c)
    (hA : A' = if m = l then A else A.map (·.add (l * sz))) (hn : h - l = n') (hm : m - l = m') :
    (execOp a.eval o).run P w = .ok (.value (.slice A' n' m')) w := by
  subst hA hn hm
  exact op_slice3 ho hu hs hlo eh em h1 h2 h3
theorem Sl.cut' {α : Type} {d : Ty α} {w : World} {S : Nat → Prop} {xs : List α} {A A' : Option Addr} {n c l h m n' m' : Nat} (hx : Sl d w S xs (.slice A n c)) (h1 : l ≤ h) (h2 : h ≤ m) (h3 : m ≤ c) (h4 : h ≤ xs.length)
    (hA : A' = if m = l then A else A.map (·.add (l * d.sz))) (hn : h - l = n') (hm : m - l = m') : Sl d w S ((xs.drop l).take n') (.slice A' n' m') := by
  subst hA hn hm
  exact hx.cut h1 h2 h3 h4

theorem res0 {fn : Func} {tmps : Array Value} {w : World} (hf : fn.results = #[]) : (results fn tmps).run P w = .ok (.tuple #[]) w := resN (rs := []) (vs := []) hf (by simp) trivial

section
variable {B : Exit → Act → World → Prop}
theorem run_callP {σ : List Item × Act} {w : World} {f : FuncId} {args : Array Value} {R : Ending → World → Prop} (hk : opOk σ = true) (ho : callArg σ.2 (opOf σ) = some (f, args)) (hp : plainFn P f = true)
    (hc : Calls P f args w R) (hK : ∀ e w', R e w' → (∃ v, e = .returned v ∧ Run P B (adv P fuel (nxt σ v)) w') ∨ (∃ c, e = .panicked c ∧ B (.panic c) σ.2 w')) : Run P B σ w :=
  run_heavy hk (heavy_callP ho hp hc hK)
theorem run_panic {σ : List Item × Act} {w w' : World} {v : Value} (hk : opOk σ = true) (h : (execOp σ.2.eval (opOf σ)).run P w = .halt (.panic v) w') (hB : B (.panic [{ v, recovered := false }]) σ.2 w') : Run P B σ w := by
  refine run_heavy hk ?_
  unfold Heavy
  rw [h]
  exact ⟨rfl, hB⟩
end

/-- A block of cells reads as a row. -/
theorem blk_sl {α : Type} {d : Ty α} {w : World} {S : Nat → Prop} {b n : Nat} {T : TypeId} {cells : Array Value} {xs : List α} (hB : Blk w b T cells) (hS : S b) (hn : xs.length = n) (hm : n ≤ maxLen)
    (hx : ∀ j x, xs[j]? = some x → ∃ c, d.K w S x c ∧ ∀ i v, c[i]? = some v → cells[j * d.sz + i]? = some v) : Sl d w S xs (.slice (some ⟨b, 0, none⟩) n n) := by
  subst hn
  refine ⟨some ⟨b, 0, none⟩, xs.length, rfl, Nat.le_refl _, hm, (fun h => by cases h), fun _ => ⟨b, 0, rfl, hS, hB.lt, fun j x hj => ?_⟩⟩
  obtain ⟨c, h1, h2⟩ := hx j x hj
  exact ⟨c, h1, fun i v hi => by rw [hB.cell, Nat.zero_add]; exact h2 i v hi⟩

end
end Go.PM
