/- The walk of Post: the messages that are kept. -/
import Derived.Test.YthmajhdemooecaaF14
import Derived.Test.YthmajhdemooecaaXB
namespace Go.Proofs.Ythmajhdemooecaa
open Go.PM Go.RowKit
set_option linter.unusedVariables false
set_option linter.unusedSimpArgs false
set_option linter.unnecessarySimpa false
attribute [local irreducible] adv advD advF fuel

theorem pf48 : plainFn Try.prog 48 = true := by kernel_rfl
theorem pf47 : plainFn Try.prog 47 = true := by kernel_rfl
theorem pf87 : plainFn Try.prog 87 = true := by kernel_rfl
theorem pf13 : plainFn Try.prog 13 = true := by kernel_rfl

theorem post48_calls {b : Bytes} {v : Value} {w : World} (hx : Sl Ty.u8 w Any b v) :
    Calls Try.prog 48 #[v] w fun e w' => e = .returned (.bool (!decide (Brings b))) ∧ Ext w w' := by
  refine calls_run Try.func48 (by kernel_rfl) ?_
  refine run_call (f := 41) (args := #[v]) (by kernel_rfl) (by kernel_rfl) pf41 (deposit41_calls hx) fun e wc ⟨he, hE⟩ => ⟨_, he, ?_⟩
  exact run_ret (v := .bool (!decide (Brings b))) (by kernel_rfl) (by kernel_rfl) (by kernel_rfl) ⟨rfl, hE⟩

def fn48 : Value := .func (.func 48) #[] #[]
theorem kept47_calls {A : Option Addr} {n c : Nat} {w : World} :
    Calls Try.prog 47 #[.slice A n c, fn48] w fun e w' => ∃ bA bB, e = .returned (.func (.func 87) #[] #[.pointer (some ⟨bA, 0, none⟩), .pointer (some ⟨bB, 0, none⟩)]) ∧ HS w w' [Ck.blk bB 37 #[fn48], Ck.blk bA 23 #[.slice A n c]] := by
  have H := HS.refl w
  refine calls_run Try.func47 (by kernel_rfl) ?_
  refine run_box (t := 23) (v := .slice A n c) H (by kernel_rfl) (by kernel_rfl) fun bA wc H => ?_
  refine run_box (t := 37) (v := fn48) H (by kernel_rfl) (by kernel_rfl) fun bB wc H => ?_
  exact run_ret (v := .func (.func 87) #[] #[.pointer (some ⟨bA, 0, none⟩), .pointer (some ⟨bB, 0, none⟩)]) (by kernel_rfl) (by kernel_rfl) (by kernel_rfl) ⟨bA, bB, rfl, H⟩

theorem RunR.mono {P : Program} {l : Nat} {B B' : Act → World → Prop} {σ : List Go.Item × Act} {w : World} (h : RunR P l B σ w) (hB : ∀ a w, B a w → B' a w) : RunR P l B' σ w := fun b k cs hb =>
  let ⟨a, w', h1, h2⟩ := h b k cs hb
  ⟨a, w', hB _ _ h1, h2⟩

/-- One round does its work: J tells what is held behind the rounds of these messages. -/
def RoundOK (N : Nat) (w0 : World) (l : Nat) (rec : Loop) (C : List Ck) (J : List Nat → Value → List Ck) (css : Nat → List Value) : Prop :=
  ∀ (ks : List Nat) (j : Nat) (vb : Value) (w : World) (vl : Value), css j = [vb] → ks.length ≤ j → j < N → (∀ k ∈ ks, k < N) → HS w0 w (Ck.obj l (.loop rec) :: C ++ J ks vl) →
    RunR Try.prog l (fun a1 w1 => ∃ rec1, w1.heap[l]? = some (.loop rec1) ∧ rec1.state = .ready ∧
      RunR Try.prog l (fun a2 w2 => ∃ rec2, w2.heap[l]? = some (.loop rec2) ∧ ∃ vl', HS w0 (w2.putObj l (.loop { rec2 with state := .ready, pending := none })) (Ck.obj l (.loop rec) :: C ++ J (ks ++ [j]) vl'))
        ([.code rec.body], a1) (w1.putObj l (.loop { rec1 with state := .busy })))
      ([.code rec.assign], { tmps := rec.tmps.setIfInBounds (rec.params.getD 0 0) vb, defers := [] }) w

theorem zip1 {ps : Array Tmp} {T : Array Value} {v : Value} (h : ps.size = 1) : (ps.zip #[v]).foldl (fun tmps (t, a) => tmps.setIfInBounds t a) T = T.setIfInBounds (ps.getD 0 0) v := by
  obtain ⟨l⟩ := ps
  match l, h with
  | [p], _ => simp

def keptI (msgs : List Bytes) (n : Nat) : List Nat := (List.range n).filter fun j => !decide (Brings (msgs.getD j []))

theorem keptI_len (msgs : List Bytes) (n : Nat) : (keptI msgs n).length ≤ n := Nat.le_trans (List.length_filter_le _ _) (by simp)
theorem keptI_lt {msgs : List Bytes} {n j : Nat} (h : j ∈ keptI msgs n) : j < n := List.mem_range.1 (List.mem_filter.1 h).1

set_option maxHeartbeats 1000000 in
theorem kept87_calls {w0 w : World} {l bA bB b o c : Nat} {rec : Loop} {A : Option Addr} {msgs : List Bytes} {css : Nat → List Value} {J : List Nat → Value → List Ck} {vl0 : Value} (hps : rec.params.size = 1)
    (hA : 0 < msgs.length → A = some ⟨b, o, none⟩) (hlen : msgs.length ≤ 137438953472)
    (H : HS w0 w (Ck.obj l (.loop rec) :: [Ck.blk bA 23 #[.slice A msgs.length c], Ck.blk bB 37 #[fn48], Ck.rowK bytesT b o msgs css] ++ J [] vl0))
    (hround : RoundOK msgs.length w0 l rec [Ck.blk bA 23 #[.slice A msgs.length c], Ck.blk bB 37 #[fn48], Ck.rowK bytesT b o msgs css] J css) :
    Calls Try.prog 87 #[.func (.yield l) #[] #[], .pointer (some ⟨bA, 0, none⟩), .pointer (some ⟨bB, 0, none⟩)] w fun e w' => (∃ v, e = .returned v) ∧
      ∃ vl, HS w0 w' (Ck.obj l (.loop rec) :: [Ck.blk bA 23 #[.slice A msgs.length c], Ck.blk bB 37 #[fn48], Ck.rowK bytesT b o msgs css] ++ J (keptI msgs msgs.length) vl) := by
  refine calls_run Try.func87 (by kernel_rfl) ?_
  refine run_ld (n := 1) (t := 23) (off := 0) (v := .slice A msgs.length c) H rfl (by kernel_rfl) (by kernel_rfl) (by kernel_rfl) ?_
  refine run_loop (fun m a w' => ∃ i, m = msgs.length - i ∧ i ≤ msgs.length ∧ (∃ u, a = env 22 u [(0, .func (.yield l) #[] #[]), (1, .pointer (some ⟨bA, 0, none⟩)), (2, .pointer (some ⟨bB, 0, none⟩)), (6, .slice A msgs.length c), (7, .int .i64 (msgs.length : Int)), (8, .int .i64 (i : Int))]) ∧
    ∃ vl, HS w0 w' (Ck.obj l (.loop rec) :: [Ck.blk bA 23 #[.slice A msgs.length c], Ck.blk bB 37 #[fn48], Ck.rowK bytesT b o msgs css] ++ J (keptI msgs i) vl)) _ (by kernel_rfl) ⟨0, rfl, Nat.zero_le _, env_intro (by kernel_rfl) (by kernel_rfl) (by kernel_rfl), _, H⟩ ?_
  clear H
  rintro m a w' ⟨i, rfl, hi, ⟨u, rfl⟩, vl, H⟩ next
  refine run_if (p := (i : Int) < (msgs.length : Int)) (by kernel_rfl) (by kernel_rfl) (fun hc => ?_) (fun hc => ?_)
  · have hlt : i < msgs.length := by omega
    have hget := List.getElem?_eq_getElem hlt
    have hgd : msgs.getD i [] = msgs[i] := by simp [List.getD, hget]
    generalize msgs[i] = m at hget hgd
    obtain rfl := hA (by omega)
    obtain ⟨hK, hcell⟩ := H.rowK 3 rfl hget
    obtain ⟨vb, hcs, hm⟩ := bytesT_open hK
    rw [hcs] at hcell
    obtain ⟨Am, cm, rfl⟩ := hm.form
    refine run_val (v := .pointer (some ⟨b, o + i * 1, none⟩)) (by kernel_rfl) (op_indexN (t := 23) (e := 27) (n := msgs.length) (c := c) (k := .i64) (by kernel_rfl) (by kernel_rfl) (by kernel_rfl) (hlt)) ?_
    refine run_val (v := .slice Am m.length cm) (by kernel_rfl) (op_load (t := 27) (b := b) (off := o + i * 1) (by kernel_rfl) (run_loadVar_one (by kernel_rfl) (hcell 0 _ rfl))) ?_
    refine run_ld (n := 2) (t := 37) (off := 0) (v := fn48) H rfl (by kernel_rfl) (by kernel_rfl) (by kernel_rfl) ?_
    refine run_call (f := 48) (args := #[.slice Am m.length cm]) (by kernel_rfl) (by kernel_rfl) pf48 (post48_calls hm) fun e wc ⟨he, hE⟩ => ⟨_, he, ?_⟩
    replace H := H.ext hE
    have hkeep : keptI msgs (i + 1) = keptI msgs i ++ (if Brings m then [] else [i]) := by
      unfold keptI
      rw [List.range_succ, List.filter_append]
      congr 1
      by_cases hb : Brings m
      · rw [if_pos hb, List.filter_cons_of_neg (by rw [hgd]; simp [hb])]; rfl
      · rw [if_neg hb, List.filter_cons_of_pos (by rw [hgd]; simp [hb])]; rfl
    by_cases hb : Brings m
    · rw [if_pos hb, List.append_nil] at hkeep
      rw [decide_eq_true hb]
      refine run_lit (.bool false) (by kernel_rfl) (by kernel_rfl) ?_
      refine run_cond (t := false) (by kernel_rfl) (by kernel_rfl) (fun h => by cases h) (fun _ => ?_)
      refine run_at (by kernel_rfl) (next (msgs.length - (i + 1)) _ _ (by omega) ⟨i + 1, rfl, by omega, ?_, ?_⟩)
      · have hw := wrap_succ (n := i) (by omega)
        rw [← hw]
        exact env_intro (by kernel_rfl) (by kernel_rfl) (by kernel_rfl)
      · rw [hkeep]; exact ⟨_, H⟩
    · rw [if_neg hb] at hkeep
      rw [decide_eq_false hb]
      refine run_lit (.bool true) (by kernel_rfl) (by kernel_rfl) ?_
      refine run_round (l := l) (args := #[.slice Am m.length cm]) (rec := rec) (by kernel_rfl) (by kernel_rfl) (H.obj 0 rfl) (by rw [hps]; rfl) ?_
      rw [zip1 hps]
      refine RunR.mono (hround (keptI msgs i) i (.slice Am m.length cm) _ _ hcs (keptI_len msgs i) hlt (fun k hk => Nat.lt_trans (keptI_lt hk) hlt) H) fun a1 w1 ⟨rec1, h1, h2, h3⟩ => ⟨rec1, h1, h2, RunR.mono h3 fun a2 w2 ⟨rec2, h4, vl', H⟩ => ⟨rec2, h4, ?_⟩⟩
      refine run_cond (t := false) (by kernel_rfl) (by kernel_rfl) (fun h => by cases h) (fun _ => ?_)
      refine run_at (by kernel_rfl) (next (msgs.length - (i + 1)) _ _ (by omega) ⟨i + 1, rfl, by omega, ?_, ?_⟩)
      · have hw := wrap_succ (n := i) (by omega)
        rw [← hw]
        exact env_intro (by kernel_rfl) (by kernel_rfl) (by kernel_rfl)
      · rw [hkeep]; exact ⟨_, H⟩
  · obtain rfl : i = msgs.length := by omega
    exact run_ret (v := .tuple #[]) (by kernel_rfl) (by kernel_rfl) (res0 (by kernel_rfl)) ⟨⟨_, rfl⟩, _, H⟩
end Go.Proofs.Ythmajhdemooecaa
