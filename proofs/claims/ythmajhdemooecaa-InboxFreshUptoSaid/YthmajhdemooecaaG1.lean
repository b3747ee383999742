/- A law's row out of its walk: what is handed in is opened, and reads behind the call as before. -/
import Derived.Test.YthmajhdemooecaaG0
import Derived.WideKeyArgs
import Derived.Carry
namespace Go.Proofs.Ythmajhdemooecaa
open Go.PM Go.RowKit Go.ChangeShapes
set_option linter.unusedVariables false
set_option linter.unusedSimpArgs false
set_option linter.unnecessarySimpa false

theorem trodAll_stays {H : Type} {enc : TypeId × Value → H} {P : Program} (hl : laidOutB P = true) {W W' : World} (hb : Ext W W') {sp : Nat → Bool} :
    ∀ {ts : List TypeId} {vs : List Value} {ds : List (DataW H)} {ps : List MemPlace}, (∀ t ∈ ts, P.readableRec t = true ∧ t < P.types.size) → DataW.TrodAll enc P W 0 (fun _ => true) true ts vs ds ps → (∀ x ∈ ps, x.block < W.heap.size) → (∀ p ∈ ps, sp p.block = true) →
      DataW.TrodAll enc P W' 0 sp true ts vs ds ps
  | [], [], [], ps, _, h, _, _ => h
  | [], [], _ :: _, ps, _, h, _, _ => h.elim
  | [], _ :: _, _, ps, _, h, _, _ => h.elim
  | t :: ts, [], _, ps, _, h, _, _ => h.elim
  | t :: ts, v :: vs, [], ps, _, h, _, _ => h.elim
  | t :: ts, v :: vs, d :: ds, ps, hts, ⟨p, q, h1, h2, he⟩, hlt, hs => by
    subst he
    have ht := hts t (by simp)
    exact ⟨p, q, WideElems.Trod_stays hl ht.1 ht.2 h1 (fun x hx => hb.same (hlt x (List.mem_append_left _ hx))) (fun x hx => hs x (List.mem_append_left _ hx)),
      trodAll_stays hl hb (fun t ht => hts t (List.mem_cons_of_mem _ ht)) h2 (fun x hx => hlt x (List.mem_append_right _ hx)) (fun x hx => hs x (List.mem_append_right _ hx)), rfl⟩

theorem law_post {H : Type} {enc : TypeId × Value → H} {P : Program} {fn : Func} {s : ChangeSpec} {W W' : World} {args : Array Value} {ds gs : List (DataW H)} {before : List MemPlace}
    (hl : laidOutB P = true) (hts : ∀ t ∈ fn.params.toList, P.readableRec t = true ∧ t < P.types.size) (hv : s.vars = []) (hr : fn.resultTypes = #[4]) (hb : P.underlying 4 = some .bool)
    (hfn : s.fn H (ds ++ gs) = { results := [.lit (.bool true)], args := ds }) (hW : DataW.Whole enc P fn.params.toList s.vars false W args.toList ds gs before) (hE : Ext W W') :
    s.post enc P fn false true false false W args (.bool true) W' := by
  have hW' := hW
  obtain ⟨p, q, hA, hV, rfl, hz, -⟩ := hW
  rw [hv] at hV
  obtain ⟨rfl, rfl⟩ := trodVars_none hV
  have hlt : ∀ x ∈ p ++ [], x.block < W.heap.size := fun x hx => by simpa using hW'.lt x hx
  refine ⟨ds, [], p ++ [], [], p, [], hW', ?_, ?_, ?_, hE.frame _, fun h => by cases h⟩
  · rw [hfn, hr]
    exact trodAll_mk1 (shut_bool hb _)
  · rw [hfn]
    exact trodAll_stays hl hE hts hA (fun x hx => hlt x (by simpa using hx)) (fun x hx => by simpa using hlt x (by simpa using hx))
  · rw [hv, hfn]
    rfl

theorem bulkL_len {α : Type} {m : α → Nat} (hm : ∀ x, 1 ≤ m x) (xs : List α) : xs.length ≤ bulkL m xs := by
  unfold bulkL
  induction xs with
  | nil => simp
  | cons x xs ih =>
    have := hm x
    simp only [List.map_cons, List.sum_cons, List.length_cons] at *
    omega
theorem bulkL_mem {α : Type} {m : α → Nat} {xs : List α} {x : α} (h : x ∈ xs) : m x ≤ bulkL m xs := by
  unfold bulkL
  induction xs with
  | nil => cases h
  | cons y xs ih =>
    simp only [List.map_cons, List.sum_cons]
    rcases List.mem_cons.1 h with rfl | h
    · omega
    · have := ih h; omega
theorem bulkL_pos {α : Type} {m : α → Nat} (xs : List α) : 1 ≤ bulkL m xs := by unfold bulkL; omega

theorem bulkAll_mem {H : Type} {d : DataW H} {ds : List (DataW H)} (h : d ∈ ds) : Rows.uptoBulk d ≤ Rows.uptoBulkAll ds := by
  induction ds with
  | nil => cases h
  | cons y ds ih =>
    simp only [Rows.uptoBulkAll]
    rcases List.mem_cons.1 h with rfl | h
    · omega
    · have := ih h; omega

theorem arg_struct {H : Type} {enc : TypeId × Value → H} {P : Program} {α : Type} {t : TypeId} {fs : Array Field} {d : Ty α} {m : α → Nat} {W : World} {r : Reach} {b base : Nat} {sp : Nat → Bool} {held : Bool} {v : Value} {dd : DataW H} {p : List MemPlace}
    (ho : Opens P t d m) (ht : P.underlying t = some (.struct fs)) (hval : Value.okWide P W r b t v) (h : DataW.Trod enc P W base sp held t v dd p) : ∃ cs x, v = .agg cs ∧ d.K W Any x cs.toList ∧ m x ≤ Rows.uptoBulk dd := by
  obtain ⟨cs, rfl, -⟩ := Go.WideShapes.okWide_struct ht hval
  obtain ⟨n, hn⟩ := h
  obtain ⟨x, h1, h2⟩ := ho enc W base sp held n _ _ (fun h => by cases h) hn
  exact ⟨cs, x, rfl, h1, h2⟩
theorem arg_slice {H : Type} {enc : TypeId × Value → H} {P : Program} {α : Type} {t e : TypeId} {d : Ty α} {m : α → Nat} {W : World} {r : Reach} {b base : Nat} {sp : Nat → Bool} {held : Bool} {v : Value} {dd : DataW H} {p : List MemPlace}
    (ho : Opens P t d m) (ht : P.underlying t = some (.slice e)) (hval : Value.okWide P W r b t v) (h : DataW.Trod enc P W base sp held t v dd p) : ∃ x, d.K W Any x [v] ∧ m x ≤ Rows.uptoBulk dd := by
  obtain ⟨A, n, c, rfl⟩ := Go.WideShapes.okWide_slice ht hval
  obtain ⟨k, hn⟩ := h
  obtain ⟨x, h1, h2⟩ := ho enc W base sp held k _ _ (fun h => by cases h) hn
  exact ⟨x, h1, h2⟩

/-! what this seat's laws are handed -/
theorem opens_any {m : Bytes → Nat} (h : Opens Try.prog 27 (Ty.slice Ty.u8) m true) : Opens Try.prog 27 bytesT m true := by
  intro H enc w base sp held fuel cs y hq hy
  obtain ⟨x, ⟨v, h1, h2⟩, h3⟩ := h enc w base sp held fuel cs y hq hy
  subst h1
  exact ⟨x, bytesT_any h2 (hq rfl), h3⟩
attribute [local irreducible] Opens OpensF
theorem opens27s {q : Bool} : Opens Try.prog 27 (Ty.slice Ty.u8) (bulkL fun _ => 1) q := opens_slice (e := 5) (by kernel_rfl) (by kernel_rfl) (by decide) (opens_u8 (by kernel_rfl))
theorem opens27 : Opens Try.prog 27 bytesT (bulkL fun _ => 1) true := opens_any opens27s
theorem opens23 {q : Bool} : Opens Try.prog 23 (Ty.slice bytesT) (bulkL (bulkL fun _ => 1)) q := opens_slice (e := 27) (by kernel_rfl) (by kernel_rfl) (by decide) opens27
def delM : Delayed → Nat := fun d => 1 + bulkL (fun _ => 1) d.msg
theorem opens31 : Opens Try.prog 31 delT delM true := by
  refine opens_iso (d := Ty.pair (Ty.int .i64) bytesT) (m := fun x => 1 + bulkL (fun _ => 1) x.2) (fun d : Delayed => (d.block, d.msg)) (fun p => ⟨p.1, p.2⟩) (fun _ => rfl) ?_
  refine opens_struct (fs := #[{ name := "Block", type := 3, offset := 0, embedded := false, tag := "", pkgPath := "", byteOffset := 0 }, { name := "Message", type := 27, offset := 1, embedded := false, tag := "", pkgPath := "", byteOffset := 8 }]) (by kernel_rfl) (by kernel_rfl) ?_
  exact opensF_cons (m := fun _ => 1) (m' := (bulkL fun _ => 1)) rfl (by kernel_rfl) (opens_int (k := .i64) (by kernel_rfl)) (opensF_one rfl (by kernel_rfl) opens27)
theorem opens22 : Opens Try.prog 22 (Ty.slice delT) (bulkL delM) := opens_slice (e := 31) (by kernel_rfl) (by kernel_rfl) (by decide) opens31
def inboxT : Ty Inbox := Ty.iso (Ty.pair (Ty.slice delT) (Ty.pair (Ty.int .i64) (Ty.pair (Ty.slice bytesT) (Ty.int .u64)))) fun x => (x.queue, x.taken, x.list, x.next)
def inboxM : Inbox → Nat := fun x => bulkL delM x.queue + (1 + (bulkL (bulkL fun _ => 1) x.list + 1))
theorem opens26 : Opens Try.prog 26 inboxT inboxM := by
  refine opens_iso (d := Ty.pair (Ty.slice delT) (Ty.pair (Ty.int .i64) (Ty.pair (Ty.slice bytesT) (Ty.int .u64)))) (m := fun x => bulkL delM x.1 + (1 + (bulkL (bulkL fun _ => 1) x.2.2.1 + 1))) (fun x : Inbox => (x.queue, x.taken, x.list, x.next)) (fun p => ⟨p.1, p.2.1, p.2.2.1, p.2.2.2⟩) (fun _ => rfl) ?_
  refine opens_struct (fs := #[{ name := "Queue", type := 22, offset := 0, embedded := false, tag := "", pkgPath := "", byteOffset := 0 }, { name := "Taken", type := 3, offset := 1, embedded := false, tag := "", pkgPath := "", byteOffset := 24 }, { name := "List", type := 23, offset := 2, embedded := false, tag := "", pkgPath := "", byteOffset := 32 }, { name := "Next", type := 24, offset := 3, embedded := false, tag := "", pkgPath := "", byteOffset := 56 }]) (by kernel_rfl) (by kernel_rfl) ?_
  exact opensF_cons (m := bulkL delM) (m' := fun x : Int × List Bytes × Int => 1 + ((bulkL (bulkL fun _ => 1)) x.2.1 + 1)) rfl (by kernel_rfl) opens22 (opensF_cons (m := fun _ => 1) (m' := fun x : List Bytes × Int => (bulkL (bulkL fun _ => 1)) x.1 + 1) rfl (by kernel_rfl) (opens_int (k := .i64) (by kernel_rfl)) (opensF_cons (m := (bulkL (bulkL fun _ => 1))) (m' := fun _ => 1) rfl (by kernel_rfl) opens23 (opensF_one rfl (by kernel_rfl) (opens_int (k := .u64) (by kernel_rfl)))))

structure Ask where
  block : Int
  msg : Bytes
  to : Int
  am : Int
def askT : Ty Ask := Ty.iso (Ty.pair (Ty.int .i64) (Ty.pair (Ty.slice Ty.u8) (Ty.pair (Ty.int .u64) (Ty.int .u64)))) fun x => (x.block, x.msg, x.to, x.am)
def askM : Ask → Nat := fun x => 1 + (bulkL (fun _ => 1) x.msg + (1 + 1))
theorem opens29 : Opens Try.prog 29 askT askM := by
  refine opens_iso (d := Ty.pair (Ty.int .i64) (Ty.pair (Ty.slice Ty.u8) (Ty.pair (Ty.int .u64) (Ty.int .u64)))) (m := fun x => 1 + (bulkL (fun _ => 1) x.2.1 + (1 + 1))) (fun x : Ask => (x.block, x.msg, x.to, x.am)) (fun p => ⟨p.1, p.2.1, p.2.2.1, p.2.2.2⟩) (fun _ => rfl) ?_
  refine opens_struct (fs := #[{ name := "Block", type := 3, offset := 0, embedded := false, tag := "", pkgPath := "", byteOffset := 0 }, { name := "Message", type := 27, offset := 1, embedded := false, tag := "", pkgPath := "", byteOffset := 8 }, { name := "To", type := 24, offset := 2, embedded := false, tag := "", pkgPath := "", byteOffset := 32 }, { name := "Amount", type := 24, offset := 3, embedded := false, tag := "", pkgPath := "", byteOffset := 40 }]) (by kernel_rfl) (by kernel_rfl) ?_
  exact opensF_cons (m := fun _ => 1) (m' := fun x : Bytes × Int × Int => (bulkL fun _ => 1) x.1 + (1 + 1)) rfl (by kernel_rfl) (opens_int (k := .i64) (by kernel_rfl)) (opensF_cons (m := (bulkL fun _ => 1)) (m' := fun _ => 1 + 1) rfl (by kernel_rfl) opens27s (opensF_cons (m := fun _ => 1) (m' := fun _ => 1) rfl (by kernel_rfl) (opens_int (k := .u64) (by kernel_rfl)) (opensF_one rfl (by kernel_rfl) (opens_int (k := .u64) (by kernel_rfl)))))

theorem inbox_arg {w : World} {x : Inbox} {cs : Array Value} (h : inboxT.K w Any x cs.toList) (hb : inboxM x ≤ 1048576) : ∃ vq vl, cs = #[vq, .int .i64 x.taken, vl, .int .u64 x.next] ∧ InArg w x vq vl ∧ IntKind.i64.wrap x.taken = x.taken ∧ IntKind.u64.wrap x.next = x.next := by
  obtain ⟨c1, c2, h0, ⟨vq, rfl, hq⟩, c3, c4, rfl, ⟨rfl, ht⟩, c5, c6, rfl, ⟨vl, rfl, hl⟩, ⟨rfl, hn⟩⟩ := h
  unfold inboxM at hb
  have h1 := bulkL_len (m := delM) (fun d => by unfold delM; omega) x.queue
  have h2 := bulkL_len (m := bulkL fun _ => 1) (fun d => bulkL_pos _) x.list
  refine ⟨vq, vl, by rw [← Array.toList_inj, h0]; rfl, ⟨hq, hl, by unfold small; simp only at *; omega, by unfold small; simp only at *; omega, fun d hd => ?_, fun m hm => ?_⟩, ht, hn⟩
  · have h3 := bulkL_mem (m := delM) hd
    have h4 := bulkL_len (m := fun _ => 1) (fun _ => Nat.le_refl _) d.msg
    have h5 : delM d = 1 + bulkL (fun _ => 1) d.msg := rfl
    rw [h5] at h3
    unfold small; simp only at *; omega
  · have h3 := bulkL_mem (m := bulkL fun _ => 1) hm
    have h4 := bulkL_len (m := fun _ => 1) (fun _ => Nat.le_refl _) m
    unfold small; simp only at *; omega
theorem ask_arg {w : World} {x : Ask} {cs : Array Value} (h : askT.K w Any x cs.toList) (hb : askM x ≤ 1048576) : ∃ vm, cs = #[.int .i64 x.block, vm, .int .u64 x.to, .int .u64 x.am] ∧ Sl Ty.u8 w Any x.msg vm ∧ x.msg.length ≤ 1048576 ∧ IntKind.i64.wrap x.block = x.block ∧ IntKind.u64.wrap x.to = x.to ∧ IntKind.u64.wrap x.am = x.am := by
  obtain ⟨c1, c2, h0, ⟨rfl, h1⟩, c3, c4, rfl, ⟨vm, rfl, hm⟩, c5, c6, rfl, ⟨rfl, h3⟩, ⟨rfl, h4⟩⟩ := h
  unfold askM at hb
  have h5 := bulkL_len (m := fun _ => 1) (fun _ => Nat.le_refl _) x.msg
  exact ⟨vm, by rw [← Array.toList_inj, h0]; rfl, hm, by simp only at *; omega, h1, h3, h4⟩
theorem lists_arg {w : World} {x : List Bytes} {v : Value} (h : (Ty.slice bytesT).K w Any x [v]) (hb : bulkL (bulkL fun _ => 1) x ≤ 1048576) : Sl bytesT w Any x v ∧ x.length ≤ 1048576 ∧ ∀ m ∈ x, m.length ≤ 1048576 := by
  obtain ⟨v', h0, h⟩ := h
  simp only [List.cons.injEq, and_true] at h0
  subst h0
  have h2 := bulkL_len (m := bulkL fun _ => 1) (fun d => bulkL_pos _) x
  exact ⟨h, by omega, fun m hm => by
    have h3 := bulkL_mem (m := bulkL fun _ => 1) hm
    have h4 := bulkL_len (m := fun _ => 1) (fun _ => Nat.le_refl _) m
    omega⟩
theorem bytes_arg {w : World} {x : Bytes} {v : Value} (h : (Ty.slice Ty.u8).K w Any x [v]) (hb : bulkL (fun _ => 1) x ≤ 1048576) : Sl Ty.u8 w Any x v ∧ x.length ≤ 1048576 := by
  obtain ⟨v', h0, h⟩ := h
  simp only [List.cons.injEq, and_true] at h0
  subst h0
  have h2 := bulkL_len (m := fun _ => 1) (fun _ => Nat.le_refl _) x
  exact ⟨h, by omega⟩
theorem slice_cells {v : Value} {A : Option Addr} {n c : Nat} (h : v = .slice A n c) : v.cells.toList = [v] := by subst h; rfl

theorem own_try : ownKnob Try.prog.godebug = none := by kernel_rfl
theorem laid_try : laidOutB Try.prog = true := by kernel_rfl
theorem small_of {H : Type} {ds : List (DataW H)} (hk : Rows.uptoSmall H ds = true) {d : DataW H} (h : d ∈ ds) : Rows.uptoBulk d ≤ 1048576 := Nat.le_trans (bulkAll_mem h) (of_decide_eq_true hk)
end Go.Proofs.Ythmajhdemooecaa
