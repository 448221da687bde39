/-
  Plain law of package refs: a book is what each ref is, and its transactions; told from the newest back each ref's changes lead from what it is; where names lead. No program in sight, no condition.
-/
import Derived.Lib.IndexMore
import Derived.Lib.SlTrimSet
namespace Go.Proofs.YtmpjkjpfdkmhlaaDoor
namespace RefsLaw
abbrev Bs := List UInt8
structure Val where
  id : Bs
  name : Bs
deriving DecidableEq
structure Chg where
  ref : Bs
  old : Val
  new : Val
deriving DecidableEq
structure Txn where
  who : Bs
  text : Bs
  stamp : Int
  chs : List Chg
deriving DecidableEq
def zv : Val := ⟨[], []⟩
abbrev Refs := Bs → Val
def put (f : Refs) (r : Bs) (v : Val) : Refs := fun x => if x = r then v else f x
def none_ : Refs := fun _ => zv

def okc (c : UInt8) : Bool := !((decide ((c.toNat : Int) < 97) || decide (122 < (c.toNat : Int))) && ((decide ((c.toNat : Int) < 48) || decide (57 < (c.toNat : Int))) && decide (Go.Lib.indexByte [45, 46, 47] c < 0)))
theorem okc_iff {c : UInt8} : okc c = true ↔ ¬ (((c.toNat : Int) < 97 ∨ 122 < (c.toNat : Int)) ∧ ((c.toNat : Int) < 48 ∨ 57 < (c.toNat : Int)) ∧ Go.Lib.indexByte [45, 46, 47] c < 0) := by
  unfold okc
  rw [Bool.not_eq_true', ← Bool.not_eq_true]
  simp only [Bool.and_eq_true, Bool.or_eq_true, decide_eq_true_eq]
/-- may a ref be called so? -/
def named (s : Bs) : Bool := decide (1 ≤ s.length) && decide (s.length ≤ 200) && !Go.Lib.contains s [47, 47] && !Go.Lib.contains s [46, 46] && decide (Go.Lib.trimS s [47, 46] = s) && s.all okc
def there (v : Val) : Bool := (decide (v.id.length = 32) && decide (v.name = [])) || (decide (v.id = []) && named v.name)
def rightV (v : Val) : Bool := decide (v = zv) || there v
/-- the changes, as the program looks at them: each ref once -/
def goodC (c : Chg) : Bool := named c.ref && rightV c.old && rightV c.new && !decide (c.old = c.new)
def okChs : List Bs → List Chg → Bool
  | _, [] => true
  | seen, c :: cs => !decide (c.ref ∈ seen) && goodC c && okChs (c.ref :: seen) cs
def rightT (t : Txn) : Bool := okChs [] t.chs && decide (t.who.length ≤ 1000) && decide (t.text.length ≤ 1000) && decide (0 ≤ t.stamp) && decide (t.stamp ≤ 1099511627776) && decide (1 ≤ t.chs.length) && decide (t.chs.length ≤ 4096)
def putAll (f : Refs) (cs : List Chg) : Refs := cs.foldl (fun f c => put f c.ref c.new) f
structure Book where
  f : Refs
  txns : List Txn
def fits (f : Refs) (cs : List Chg) : Bool := cs.all fun c => decide (f c.ref = c.old)
/-- the error's number, and the book behind it -/
def apply (b : Book) (t : Txn) : Nat × Book :=
  if rightT t = true then if fits b.f t.chs = true then (0, ⟨putAll b.f t.chs, b.txns ++ [t]⟩) else (8, b) else (1, b)
def trim (b : Book) (keep : Int) : Book := ⟨b.f, b.txns.drop (b.txns.length - keep.toNat)⟩
def get (b : Book) (ref : Bs) : Val × Nat := if named ref = true then (b.f ref, if b.f ref = zv then 9 else 0) else (zv, 1)
def follow (f : Refs) : Nat → Bs → Bs × Bs × Nat
  | k, r => if (f r).name = [] then (if (f r).id = [] then (r, [], 9) else (r, (f r).id, 0)) else
    match k with
    | 0 => (r, [], 9)
    | k + 1 => follow f k (f r).name
def resolve (b : Book) (ref : Bs) : Bs × Bs × Nat := if named ref = true then follow b.f 8 ref else ([], [], 1)
def has (ref : Bs) (t : Txn) : Bool := t.chs.any fun c => decide (c.ref = ref)
def log (b : Book) (ref : Bs) : List Txn := b.txns.reverse.filter (has ref)

/-- from what a ref is back through the transactions, the newest first -/
def chain (ref : Bs) : Val → List Txn → Prop
  | _, [] => True
  | now, t :: ts => match t.chs.filter (fun c => decide (c.ref = ref)) with
    | [] => chain ref now ts
    | [c] => c.new = now ∧ chain ref c.old ts
    | _ => False
structure Inv (b : Book) : Prop where
  led : ∀ ref, chain ref (b.f ref) b.txns.reverse
  val : ∀ ref, b.f ref = zv ∨ (named ref = true ∧ there (b.f ref) = true)
  txn : ∀ t ∈ b.txns, rightT t = true

theorem inv_empty : Inv ⟨none_, []⟩ := ⟨fun _ => trivial, fun _ => .inl rfl, by simp⟩

theorem okChs_good : ∀ {seen : List Bs} {cs : List Chg}, okChs seen cs = true → ∀ c ∈ cs, goodC c = true ∧ c.ref ∉ seen
  | _, [], _ => by simp
  | seen, x :: cs, h => by
    simp only [okChs, Bool.and_eq_true, Bool.not_eq_true', decide_eq_false_iff_not] at h
    obtain ⟨⟨h1, h2⟩, h3⟩ := h
    intro c hc
    rcases List.mem_cons.1 hc with rfl | hc
    · exact ⟨h2, h1⟩
    · obtain ⟨a, b⟩ := okChs_good h3 c hc
      exact ⟨a, fun hm => b (List.mem_cons_of_mem _ hm)⟩
theorem putAll_miss {r : Bs} : ∀ {cs : List Chg} {f : Refs}, (∀ c ∈ cs, c.ref ≠ r) → putAll f cs r = f r
  | [], _, _ => rfl
  | c :: cs, f, h => by
    show putAll (put f c.ref c.new) cs r = _
    rw [putAll_miss (fun x hx => h x (List.mem_cons_of_mem _ hx)), put, if_neg (fun e => h c (by simp) e.symm)]
/-- each ref once: at most one change is of a ref -/
theorem okChs_one {r : Bs} : ∀ {seen : List Bs} {cs : List Chg}, okChs seen cs = true → ∀ f : Refs,
    (cs.filter (fun c => decide (c.ref = r)) = [] ∧ putAll f cs r = f r) ∨ ∃ c, c ∈ cs ∧ cs.filter (fun c => decide (c.ref = r)) = [c] ∧ c.ref = r ∧ putAll f cs r = c.new
  | _, [], _, _ => .inl ⟨rfl, rfl⟩
  | seen, c :: cs, h, f => by
    have h0 := h
    simp only [okChs, Bool.and_eq_true, Bool.not_eq_true', decide_eq_false_iff_not] at h
    obtain ⟨⟨h1, h2⟩, h3⟩ := h
    by_cases hc : c.ref = r
    · have hno : ∀ x ∈ cs, x.ref ≠ r := fun x hx e => (okChs_good h3 x hx).2 (by rw [e, hc]; simp)
      refine .inr ⟨c, by simp, ?_, hc, ?_⟩
      · rw [List.filter_cons_of_pos (by simpa using hc), List.filter_eq_nil_iff.2 (fun x hx => by simpa using hno x hx)]
      · show putAll (put f c.ref c.new) cs r = _
        rw [putAll_miss hno, put, if_pos hc.symm]
    · rw [List.filter_cons_of_neg (by simpa using hc)]
      have e : putAll f (c :: cs) r = putAll (put f c.ref c.new) cs r := rfl
      have e2 : put f c.ref c.new r = f r := by rw [put, if_neg (fun e => hc e.symm)]
      rw [e]
      rcases okChs_one h3 (put f c.ref c.new) with ⟨a, b⟩ | ⟨x, hx, a, b, d⟩
      · exact .inl ⟨a, by rw [b, e2]⟩
      · exact .inr ⟨x, List.mem_cons_of_mem _ hx, a, b, d⟩
theorem rightT_chs {t : Txn} (h : rightT t = true) : okChs [] t.chs = true := by
  simp only [rightT, Bool.and_eq_true] at h
  exact h.1.1.1.1.1.1
theorem inv_apply {b : Book} (h : Inv b) (t : Txn) : Inv (apply b t).2 := by
  unfold apply
  by_cases h1 : rightT t = true
  · rw [if_pos h1]
    by_cases h2 : fits b.f t.chs = true
    · rw [if_pos h2]
      have hok := rightT_chs h1
      refine ⟨fun ref => ?_, fun ref => ?_, fun x hx => ?_⟩
      · show chain ref (putAll b.f t.chs ref) (b.txns ++ [t]).reverse
        rw [List.reverse_append, List.reverse_singleton, List.singleton_append, chain]
        rcases okChs_one hok b.f with ⟨a, e⟩ | ⟨c, hc, a, e, d⟩
        · rw [a]; show chain _ _ _; rw [e]; exact h.led ref
        · rw [a]
          show c.new = _ ∧ chain _ _ _
          have ho : b.f c.ref = c.old := by simpa using List.all_eq_true.1 h2 c hc
          rw [e] at ho
          exact ⟨d.symm, ho ▸ h.led ref⟩
      · show putAll b.f t.chs ref = zv ∨ _
        rcases okChs_one hok b.f with ⟨_, e⟩ | ⟨c, hc, _, e, d⟩
        · show putAll b.f t.chs ref = zv ∨ (named ref = true ∧ there (putAll b.f t.chs ref) = true)
          rw [e]; exact h.val ref
        · have hg := (okChs_good hok c hc).1
          simp only [goodC, Bool.and_eq_true, rightV, Bool.or_eq_true, decide_eq_true_eq] at hg
          obtain ⟨⟨⟨g1, _⟩, g3⟩, _⟩ := hg
          rcases g3 with g3 | g3
          · exact .inl (d.trans g3)
          · exact .inr ⟨e ▸ g1, by rw [show (⟨putAll b.f t.chs, b.txns ++ [t]⟩ : Book).f ref = c.new from d]; exact g3⟩
      · rcases List.mem_append.1 hx with hx | hx
        · exact h.txn x hx
        · rw [List.mem_singleton] at hx; rw [hx]; exact h1
    · rw [if_neg h2]; exact h
  · rw [if_neg h1]; exact h
theorem chain_take {ref : Bs} : ∀ {ts : List Txn} {now : Val} (k : Nat), chain ref now ts → chain ref now (ts.take k)
  | [], _, k, _ => by simp [chain]
  | t :: ts, now, 0, _ => by simp [chain]
  | t :: ts, now, k + 1, h => by
    rw [List.take_succ_cons]
    unfold chain at h ⊢
    rcases hf : t.chs.filter (fun c => decide (c.ref = ref)) with _ | ⟨c, _ | ⟨d, l⟩⟩
    · rw [hf] at h; rw [hf]; exact chain_take k h
    · rw [hf] at h; rw [hf]; exact ⟨h.1, chain_take k h.2⟩
    · rw [hf] at h; exact h.elim
theorem inv_trim {b : Book} (h : Inv b) (k : Int) : Inv (trim b k) := by
  refine ⟨fun ref => ?_, h.val, fun t ht => h.txn t (List.mem_of_mem_drop ht)⟩
  show chain ref (b.f ref) (b.txns.drop _).reverse
  rw [List.reverse_drop]
  exact chain_take _ (h.led ref)

/-- the law's look through one transaction's changes: what is now, and has one been met? -/
def scan (ref : Bs) : Val → Bool → List Chg → Option (Val × Bool)
  | now, met, [] => some (now, met)
  | now, met, c :: cs => if c.ref = ref then if c.new ≠ now ∨ met = true then none else scan ref c.old true cs else scan ref now met cs
def leads (ref : Bs) : Val → List Txn → Bool
  | _, [] => true
  | now, t :: ts => match scan ref now false t.chs with
    | some (now', true) => leads ref now' ts
    | _ => false
theorem scan_miss {ref : Bs} : ∀ {cs : List Chg} {now : Val} {met : Bool}, cs.filter (fun c => decide (c.ref = ref)) = [] → scan ref now met cs = some (now, met)
  | [], _, _, _ => rfl
  | c :: cs, now, met, h => by
    have hc : c.ref ≠ ref := by
      intro e
      rw [List.filter_cons_of_pos (by simpa using e)] at h
      cases h
    rw [List.filter_cons_of_neg (by simpa using hc)] at h
    rw [scan, if_neg hc]
    exact scan_miss h
theorem scan_one {ref : Bs} : ∀ {cs : List Chg} {now : Val} {c : Chg}, cs.filter (fun c => decide (c.ref = ref)) = [c] → c.new = now → scan ref now false cs = some (c.old, true)
  | [], _, _, h, _ => by cases h
  | x :: cs, now, c, h, hn => by
    by_cases hc : x.ref = ref
    · rw [List.filter_cons_of_pos (by simpa using hc)] at h
      injection h with h1 h2
      subst h1
      rw [scan, if_pos hc, if_neg (by simp [hn])]
      exact scan_miss h2
    · rw [List.filter_cons_of_neg (by simpa using hc)] at h
      rw [scan, if_neg hc]
      exact scan_one h hn
theorem has_nil {ref : Bs} {t : Txn} : t.chs.filter (fun c => decide (c.ref = ref)) = [] ↔ has ref t = false := by
  simp [has, List.filter_eq_nil_iff]
theorem leads_chain {ref : Bs} : ∀ {ts : List Txn} {now : Val}, chain ref now ts → leads ref now (ts.filter (has ref)) = true
  | [], _, _ => rfl
  | t :: ts, now, h => by
    unfold chain at h
    rcases hf : t.chs.filter (fun c => decide (c.ref = ref)) with _ | ⟨c, _ | ⟨d, l⟩⟩
    · rw [hf] at h
      rw [List.filter_cons_of_neg (by rw [has_nil.1 hf]; simp)]
      exact leads_chain h
    · rw [hf] at h
      have hh : has ref t = true := by
        rcases hb : has ref t with _ | _
        · rw [has_nil.2 hb] at hf; cases hf
        · rfl
      rw [List.filter_cons_of_pos hh, leads, scan_one hf h.1]
      exact leads_chain h.2
    · rw [hf] at h; exact h.elim
/-- a ref that may not be called so is in no change -/
theorem log_unnamed {b : Book} (h : Inv b) {ref : Bs} (hn : named ref = false) : log b ref = [] := by
  rw [log, List.filter_eq_nil_iff]
  intro t ht hh
  simp only [has, List.any_eq_true, decide_eq_true_eq] at hh
  obtain ⟨c, hc, rfl⟩ := hh
  have hg := (okChs_good (rightT_chs (h.txn t (List.mem_reverse.1 ht))) c hc).1
  simp only [goodC, Bool.and_eq_true] at hg
  rw [hg.1.1.1] at hn
  cases hn
/-- RefsLeads -/
theorem leads_law {b : Book} (h : Inv b) (ref : Bs) : leads ref (get b ref).1 (log b ref) = true := by
  by_cases hn : named ref = true
  · rw [get, if_pos hn]; exact leads_chain (h.led ref)
  · rw [log_unnamed h (by simpa using hn)]; rfl

theorem follow_err {f : Refs} : ∀ {k : Nat} {r : Bs}, (follow f k r).2.2 ≠ 0 → (follow f k r).2.1 = [] ∧ (follow f k r).2.2 = 9
  | k, r, h => by
    unfold follow at h ⊢
    by_cases h1 : (f r).name = []
    · simp only [if_pos h1] at h ⊢
      by_cases h2 : (f r).id = []
      · simp only [if_pos h2]; exact ⟨trivial, trivial⟩
      · simp only [if_neg h2] at h; exact absurd rfl h
    · simp only [if_neg h1] at h ⊢
      cases k with
      | zero => exact ⟨rfl, rfl⟩
      | succ k => exact follow_err (k := k) h
theorem follow_more {f : Refs} : ∀ {k m : Nat} {r : Bs}, (follow f k r).2.2 = 0 → k ≤ m → follow f m r = follow f k r
  | k, m, r, h, hm => by
    unfold follow at h ⊢
    by_cases h1 : (f r).name = []
    · simp only [if_pos h1]
    · simp only [if_neg h1] at h ⊢
      cases k with
      | zero => cases h
      | succ k =>
        cases m with
        | zero => omega
        | succ m => exact follow_more (k := k) h (by omega)
/-- RefsFollow, its last part -/
theorem follow_law {b : Book} (h : Inv b) {ref : Bs} (hn : named ref = true) (hv : (b.f ref).name ≠ []) :
    (if (resolve b (b.f ref).name).2.2 = 0 ∧ (resolve b ref).2.2 = 0 then (resolve b (b.f ref).name).1 = (resolve b ref).1 ∧ (resolve b (b.f ref).name).2.1 = (resolve b ref).2.1 else (resolve b ref).2.2 = 9 ∧ (resolve b ref).2.1 = []) := by
  have hz : b.f ref ≠ zv := fun e => hv (by rw [e]; rfl)
  have hnn : named (b.f ref).name = true := by
    rcases h.val ref with e | ⟨_, e⟩
    · exact absurd e hz
    · simp only [there, Bool.or_eq_true, Bool.and_eq_true, decide_eq_true_eq] at e
      rcases e with e | e
      · exact absurd e.2 hv
      · exact e.2
  have e1 : resolve b ref = follow b.f 7 (b.f ref).name := by
    rw [resolve, if_pos hn, follow, if_neg hv]
  have e2 : resolve b (b.f ref).name = follow b.f 8 (b.f ref).name := by rw [resolve, if_pos hnn]
  rw [e1, e2]
  by_cases h0 : (follow b.f 7 (b.f ref).name).2.2 = 0
  · rw [follow_more h0 (by omega : 7 ≤ 8), if_pos ⟨h0, h0⟩]; exact ⟨rfl, rfl⟩
  · rw [if_neg (fun e => h0 e.2)]
    exact ⟨(follow_err h0).2, (follow_err h0).1⟩
end RefsLaw
end Go.Proofs.YtmpjkjpfdkmhlaaDoor
