/-
  Plain law of an index's bytes: what the program's Decode and the document's make of any bytes; they are alike; an index's bytes are read back; cut off, or gone on, they are none. Condition: fewer than 2^62 entries.
-/
import Derived.Test.YtjcelelgebohkaaGreatDoorIdxEnc
import Derived.Test.YtjcelelgebohkaaGreatDoorIdxPlay
namespace Go.Proofs.YtjcelelgebohkaaGreatDoor
open PathLaw (under)
open IdxLaw (Ent Key Inv sortE Uniq ltE)

/-- the reader: its bytes; has something been wrong? -/
structure Rd where
  b : List UInt8
  bad : Bool
def Rd.num (r : Rd) : Nat × Rd := match takeNum r.b with
  | some (n, rest) => (n, ⟨rest, r.bad⟩)
  | none => (0, ⟨[], true⟩)
def Rd.text (r : Rd) : List UInt8 × Rd := match takeText r.b 1000 with
  | some (s, rest) => (s, ⟨rest, r.bad⟩)
  | none => ([], ⟨[], true⟩)
/-- an entry as the program reads it -/
def Rd.ent (r : Rd) : Ent × Rd :=
  let r1 := r.text
  let r2 := r1.2.num
  let r3 := r2.2.text
  let r4 := r3.2.num
  let r5 := r4.2.num
  (⟨r1.1, (r2.1 : Int), r3.1, (r4.1 : Int), (r5.1 : Int)⟩, r5.2)
/-- may an entry stand beside one that is there? -/
def bes1 (k e : Ent) : Bool := !((decide (k.path = e.path) && (decide (k.stage = 0) || decide (e.stage = 0))) || ((decide (k.stage = 0) && decide (e.stage = 0)) && (under e.path k.path || under k.path e.path)))
def layE (l : List Ent) (x : Ent) : List Ent := x :: l.filter (fun e => !decide (e.key = x.key))
def goD : Nat → List Ent → Rd → Option (List Ent × Rd)
  | 0, l, r => some (l, r)
  | n + 1, l, r => if r.bad = true then some (l, r) else if IdxLaw.right r.ent.1 = true ∧ l.all (fun k => bes1 k r.ent.1) = true then goD n (layE l r.ent.1) r.ent.2 else none
/-- what the program's Decode makes -/
def decP (p : List UInt8) : Option (List Ent) := match goD (Rd.num ⟨p, false⟩).1 [] (Rd.num ⟨p, false⟩).2 with
  | none => none
  | some (l, r) => if r.bad = true ∨ encI (sortE l) ≠ p then none else some l

/-- an entry as the document reads it -/
def takeE (b : List UInt8) : Option (Ent × List UInt8) :=
  (takeText b 1000).bind fun x1 => (takeNum x1.2).bind fun x2 => (takeText x2.2 1000).bind fun x3 => (takeNum x3.2).bind fun x4 => (takeNum x4.2).bind fun x5 =>
    some (⟨x1.1, (x2.1 : Int), x3.1, (x4.1 : Int), (x5.1 : Int)⟩, x5.2)
def bes2 (a b : Ent) : Bool := if a.path = b.path then decide (0 < a.stage) && decide (a.stage < b.stage) else decide (a.path < b.path) && (decide (0 < a.stage) || (decide (0 < b.stage) || !under b.path a.path))
def goR : Nat → List Ent → List UInt8 → Option (List Ent × List UInt8)
  | 0, l, b => some (l, b)
  | n + 1, l, b => match takeE b with
    | none => none
    | some (e, b') => if IdxLaw.right e = true ∧ l.all (fun a => bes2 a e) = true then goR n (l ++ [e]) b' else none
/-- what the document's Decode makes -/
def decR (p : List UInt8) : Option (List Ent) := match takeNum p with
  | none => none
  | some (n, b) => match goR n [] b with
    | some (l, []) => some l
    | _ => none

/-- a number's bytes have one form -/
theorem takeGo_inv : ∀ (b : List UInt8) (k acc v : Nat) (r : List UInt8), takeGo k acc b = some (v, r) → ∃ m, v = acc + m * 128 ^ k ∧ b = putNum m ++ r ∧ (k = 0 ∨ 0 < m)
  | [], _, _, _, _, h => by simp [takeGo] at h
  | c :: b, k, acc, v, r, h => by
    rw [takeGo] at h
    split at h
    · cases h
    · split at h
      · cases h
      · rename_i hk hc
        split at h
        · rename_i hlt
          split at h
          · simp only [Option.some.injEq, Prod.mk.injEq] at h
            obtain ⟨rfl, rfl⟩ := h
            have hl : c.toNat < 128 := hlt
            refine ⟨c.toNat, by rw [Nat.mod_eq_of_lt hl], ?_, ?_⟩
            · rw [putNum_lt hl]
              simp
            · rcases Nat.eq_zero_or_pos k with h0 | h0
              · exact .inl h0
              · refine .inr (Nat.pos_of_ne_zero fun e => hc ⟨?_, h0⟩)
                exact UInt8.toNat_inj.1 e
          · cases h
        · rename_i hge
          obtain ⟨m, h1, h2, h3⟩ := takeGo_inv b (k + 1) _ v r h
          have hm : 0 < m := by rcases h3 with h3 | h3 <;> omega
          have hg : 128 ≤ c.toNat := Nat.le_of_not_lt hge
          have hl := c.toNat_lt
          refine ⟨c.toNat % 128 + 128 * m, ?_, ?_, .inr (by omega)⟩
          · rw [h1, Nat.pow_succ, Nat.add_mul, Nat.add_assoc]
            congr 2
            rw [Nat.mul_comm 128 m, Nat.mul_assoc, Nat.mul_comm 128]
          · rw [putNum_ge (by omega), h2]
            have e1 : (c.toNat % 128 + 128 * m) / 128 = m := by omega
            have e2 : 128 + (c.toNat % 128 + 128 * m) % 128 = c.toNat := by omega
            rw [e1, e2]
            simp
theorem takeNum_inv {b r : List UInt8} {v : Nat} (h : takeNum b = some (v, r)) : b = putNum v ++ r := by
  obtain ⟨m, h1, h2, _⟩ := takeGo_inv b 0 0 v r h
  simp at h1
  rw [h1]; exact h2
theorem takeText_inv {b s r : List UInt8} {most : Nat} (h : takeText b most = some (s, r)) : b = (putNum s.length ++ s) ++ r ∧ s.length ≤ most := by
  unfold takeText at h
  cases ht : takeNum b with
  | none => rw [ht] at h; cases h
  | some x =>
    obtain ⟨n, q⟩ := x
    rw [ht] at h
    simp only at h
    split at h
    · rename_i hc
      simp only [Option.some.injEq, Prod.mk.injEq] at h
      obtain ⟨rfl, rfl⟩ := h
      have h2 := takeNum_inv ht
      have hl : (q.take n).length = n := by rw [List.length_take]; omega
      refine ⟨?_, by omega⟩
      rw [hl, List.append_assoc, List.take_append_drop]
      exact h2
    · cases h
theorem takeText_put {s : List UInt8} (h : s.length ≤ 1000) (l : List UInt8) : takeText ((putNum s.length ++ s) ++ l) 1000 = some (s, l) := by
  rw [List.append_assoc, takeText, take_putN (by unfold top62; omega)]
  simp only
  rw [if_pos ⟨h, by simp⟩, List.take_left' rfl, List.drop_left' rfl]
theorem takeE_inv {b r : List UInt8} {e : Ent} (h : takeE b = some (e, r)) : b = entB e ++ r := by
  unfold takeE at h
  simp only [Option.bind_eq_some_iff] at h
  obtain ⟨x1, h1, x2, h2, x3, h3, x4, h4, x5, h5, h6⟩ := h
  simp only [Option.some.injEq, Prod.mk.injEq] at h6
  obtain ⟨rfl, rfl⟩ := h6
  rw [(takeText_inv h1).1, takeNum_inv h2, (takeText_inv h3).1, takeNum_inv h4, takeNum_inv h5]
  simp [entB]
theorem takeE_put {e : Ent} (h : IdxLaw.right e = true) (l : List UInt8) : takeE (entB e ++ l) = some (e, l) := by
  obtain ⟨h1, h2, h3, h4, h5, h6, h7, h8⟩ := right_nums h
  unfold takeE entB
  have e1 : putNum e.path.length ++ e.path ++ (putNum e.stage.toNat ++ (putNum e.id.length ++ e.id ++ (putNum e.size.toNat ++ putNum e.stamp.toNat))) ++ l = (putNum e.path.length ++ e.path) ++ (putNum e.stage.toNat ++ ((putNum e.id.length ++ e.id) ++ (putNum e.size.toNat ++ (putNum e.stamp.toNat ++ l)))) := by simp
  rw [e1, takeText_put (by omega)]
  simp only [Option.bind_some]
  rw [take_putN (by unfold top62; omega)]
  simp only [Option.bind_some]
  rw [takeText_put (by omega)]
  simp only [Option.bind_some]
  rw [take_putN (by unfold top62; omega)]
  simp only [Option.bind_some]
  rw [take_putN (by unfold top62; omega)]
  simp only [Option.bind_some]
  rw [← h3, ← h4, ← h5]
theorem ent_put {e : Ent} (h : IdxLaw.right e = true) (l : List UInt8) : Rd.ent ⟨entB e ++ l, false⟩ = (e, ⟨l, false⟩) := by
  have ht := takeE_put h l
  unfold takeE at ht
  simp only [Option.bind_eq_some_iff] at ht
  obtain ⟨⟨s1, b1⟩, h1, ⟨s2, b2⟩, h2, ⟨s3, b3⟩, h3, ⟨s4, b4⟩, h4, ⟨s5, b5⟩, h5, h6⟩ := ht
  simp only [Option.some.injEq, Prod.mk.injEq] at h6
  obtain ⟨h6, h7⟩ := h6
  simp only at h2 h3 h4 h5
  simp only [Rd.ent, Rd.text, Rd.num, h1, h2, h3, h4, h5, h6, h7]

/-- beside one another, in order -/
def Bes (l : List Ent) : Prop := l.Pairwise (fun a b => bes2 a b = true)
theorem goR_inv : ∀ (n : Nat) (l : List Ent) (b : List UInt8) (l' : List Ent) (r : List UInt8), goR n l b = some (l', r) → Bes l → (∀ e ∈ l, IdxLaw.right e = true) → ∃ es, l' = l ++ es ∧ es.length = n ∧ b = es.flatMap entB ++ r ∧ Bes l' ∧ ∀ e ∈ l', IdxLaw.right e = true
  | 0, l, b, l', r, h, hb, hr => by
    simp only [goR, Option.some.injEq, Prod.mk.injEq] at h
    obtain ⟨rfl, rfl⟩ := h
    exact ⟨[], by simp, rfl, by simp, hb, hr⟩
  | n + 1, l, b, l', r, h, hb, hr => by
    rw [goR] at h
    cases ht : takeE b with
    | none => rw [ht] at h; cases h
    | some x =>
      obtain ⟨e, b'⟩ := x
      rw [ht] at h
      simp only at h
      split at h
      · rename_i hc
        have hb2 : Bes (l ++ [e]) := List.pairwise_append.2 ⟨hb, List.pairwise_singleton _ _, fun a ha x hx => by
          obtain rfl := List.mem_singleton.1 hx
          exact List.all_eq_true.1 hc.2 a ha⟩
        obtain ⟨es, h1, h2, h3, h4, h5⟩ := goR_inv n (l ++ [e]) b' l' r h hb2 (fun x hx => by
          rcases List.mem_append.1 hx with hx | hx
          · exact hr x hx
          · obtain rfl := List.mem_singleton.1 hx; exact hc.1)
        refine ⟨e :: es, by rw [h1]; simp, by simp [h2], ?_, h4, h5⟩
        rw [takeE_inv ht, h3]
        simp
      · cases h
theorem goR_put : ∀ (es l : List Ent) (t : List UInt8), Bes (l ++ es) → (∀ e ∈ es, IdxLaw.right e = true) → goR es.length l (es.flatMap entB ++ t) = some (l ++ es, t)
  | [], l, t, _, _ => by simp [goR]
  | e :: es, l, t, hb, hr => by
    have hb1 := List.pairwise_append.1 hb
    rw [List.length_cons, goR, List.flatMap_cons, List.append_assoc, takeE_put (hr e (by simp))]
    simp only
    rw [if_pos ⟨hr e (by simp), List.all_eq_true.2 (fun a ha => hb1.2.2 a ha e (by simp))⟩]
    have := goR_put es (l ++ [e]) t (by simpa using hb) (fun x hx => hr x (by simp [hx]))
    simpa using this
theorem encI_eq (l : List Ent) : encI l = putNum l.length ++ l.flatMap entB := by unfold encI encK; rw [List.take_length]

/-- what is in order, and beside one another -/
theorem bes_of {l : List Ent} (hI : Inv l) (hs : Srt l) : Bes l := by
  have h2 : l.Pairwise (fun x y => x.key ≠ y.key) := List.pairwise_map.1 hI.uniq
  have h3 := hs.and h2
  refine (h3.imp_of_mem ?_)
  rintro a b ha hb ⟨h4, h5⟩
  have h6 : ltE a b = true := by
    cases h7 : ltE a b with
    | true => rfl
    | false => exact absurd (IdxLaw.ltE_key h7 (by simpa using h4)) h5
  rw [IdxLaw.ltE_iff] at h6
  have ra := hI.right a ha
  have rb := hI.right b hb
  have sa : 0 ≤ a.stage := by have := (right_nums ra).2.2.1; omega
  have sb : 0 ≤ b.stage := by have := (right_nums rb).2.2.1; omega
  unfold bes2
  by_cases hp : a.path = b.path
  · rw [if_pos hp]
    have h7 : a.stage < b.stage := by
      rcases h6 with h | h
      · rw [hp] at h; exact absurd h (List.lt_irrefl _)
      · exact h.2
    have h8 : a.stage ≠ 0 := fun h0 => by
      have := (hI.beside a ha b hb h0).1 hp.symm
      omega
    simp only [Bool.and_eq_true, decide_eq_true_eq]
    omega
  · rw [if_neg hp]
    have h7 : a.path < b.path := by
      rcases h6 with h | h
      · exact h
      · exact absurd h.1 hp
    simp only [Bool.and_eq_true, Bool.or_eq_true, decide_eq_true_eq, Bool.not_eq_true']
    refine ⟨h7, ?_⟩
    by_cases h0 : 0 < a.stage
    · exact .inl h0
    · by_cases h1 : 0 < b.stage
      · exact .inr (.inl h1)
      · exact .inr (.inr ((hI.beside a ha b hb (by omega)).2 (by omega)))
theorem not_lt_pre : ∀ (a s : List UInt8), ¬ (a ++ s < a)
  | [], s, h => List.not_lt_nil s h
  | x :: a, s, h => by
    rw [List.cons_append, List.cons_lt_cons_iff] at h
    rcases h with h | h
    · exact Nat.lt_irrefl _ h
    · exact not_lt_pre a s h.2
theorem bes_inv {l : List Ent} (hb : Bes l) (hr : ∀ e ∈ l, IdxLaw.right e = true) : Inv l ∧ Srt l := by
  have key : ∀ a b, IdxLaw.right a = true → IdxLaw.right b = true → bes2 a b = true → ltE a b = true ∧ (a.path = b.path → 0 < a.stage ∧ 0 < b.stage) ∧ (a.stage = 0 → b.stage = 0 → under b.path a.path = false ∧ a.path < b.path) := by
    intro a b ra rb h
    have sa : 0 ≤ a.stage := by have := (right_nums ra).2.2.1; omega
    unfold bes2 at h
    by_cases hp : a.path = b.path
    · rw [if_pos hp] at h
      simp only [Bool.and_eq_true, decide_eq_true_eq] at h
      exact ⟨IdxLaw.ltE_iff.2 (.inr ⟨hp, h.2⟩), fun _ => ⟨h.1, by omega⟩, fun h0 => by omega⟩
    · rw [if_neg hp] at h
      simp only [Bool.and_eq_true, Bool.or_eq_true, decide_eq_true_eq, Bool.not_eq_true'] at h
      refine ⟨IdxLaw.ltE_iff.2 (.inl h.1), fun e => absurd e hp, fun h0 h1 => ?_⟩
      rcases h.2 with h2 | h2 | h2
      · omega
      · omega
      · exact ⟨h2, h.1⟩
  have hlt : l.Pairwise (fun a b => ltE a b = true) := hb.imp_of_mem (fun ha hb h => (key _ _ (hr _ ha) (hr _ hb) h).1)
  have hne : ∀ a b, ltE a b = true → a.key ≠ b.key := fun a b h e => by
    rw [IdxLaw.ltE_iff] at h
    have h1 : a.path = b.path := congrArg Prod.fst e
    have h2 : a.stage = b.stage := congrArg Prod.snd e
    rcases h with h | h
    · rw [h1] at h; exact List.lt_irrefl _ h
    · omega
  refine ⟨⟨List.pairwise_map.2 (hlt.imp (fun h => hne _ _ h)), hr, fun a ha b hb' h0 => ?_⟩, hlt.imp (fun {a b} h => ?_)⟩
  · by_cases hab : a = b
    · subst hab
      exact ⟨fun _ => h0, fun _ => PathLaw.under_irrefl _⟩
    · have hor : bes2 a b = true ∨ bes2 b a = true := by
        obtain ⟨i, hi, rfl⟩ := List.getElem_of_mem ha
        obtain ⟨j, hj, rfl⟩ := List.getElem_of_mem hb'
        rcases Nat.lt_trichotomy i j with h | h | h
        · exact .inl (List.pairwise_iff_getElem.1 hb i j hi hj h)
        · subst h; exact absurd rfl hab
        · exact .inr (List.pairwise_iff_getElem.1 hb j i hj hi h)
      rcases hor with h | h
      · obtain ⟨_, k2, k3⟩ := key a b (hr a ha) (hr b hb') h
        refine ⟨fun e => ?_, fun h1 => (k3 h0 h1).1⟩
        have := k2 e.symm; omega
      · obtain ⟨_, k2, k3⟩ := key b a (hr b hb') (hr a ha) h
        refine ⟨fun e => ?_, fun h1 => ?_⟩
        · have := k2 e; omega
        · obtain ⟨_, k5⟩ := k3 h1 h0
          cases hu : under b.path a.path with
          | false => rfl
          | true =>
            obtain ⟨s, e⟩ := PathLaw.under_iff.1 hu
            rw [e] at k5
            exact absurd k5 (not_lt_pre _ _)
  · simp only [Bool.not_eq_true']
    cases hx : ltE b a with
    | false => rfl
    | true => have := IdxLaw.ltE_trans h hx; rw [IdxLaw.ltE_irrefl] at this; cases this

theorem encI_len (l : List Ent) : l.length ≤ (encI l).length := by
  rw [encI_eq, List.length_append]
  have : ∀ l : List Ent, l.length ≤ (l.flatMap entB).length := by
    intro l
    induction l with
    | nil => simp
    | cons e l ih =>
      rw [List.flatMap_cons, List.length_append, List.length_cons]
      have h1 : 0 < (entB e).length := by
        have := putNum_len_pos e.path.length
        unfold entB
        simp only [List.length_append]
        omega
      omega
  have := this l
  omega
theorem decR_inv {p : List UInt8} {l : List Ent} (h : decR p = some l) : Inv l ∧ Srt l ∧ p = encI l := by
  unfold decR at h
  cases ht : takeNum p with
  | none => rw [ht] at h; cases h
  | some x =>
    obtain ⟨n, b⟩ := x
    rw [ht] at h
    simp only at h
    split at h
    · rename_i l2 hg
      obtain rfl : l2 = l := Option.some.inj h
      obtain ⟨es, h1, h2, h3, h4, h5⟩ := goR_inv n [] b l2 [] hg List.Pairwise.nil (by simp)
      rw [List.nil_append] at h1
      subst h1
      obtain ⟨h6, h7⟩ := bes_inv h4 h5
      refine ⟨h6, h7, ?_⟩
      rw [takeNum_inv ht, encI_eq, h2, h3, List.append_nil]
    · cases h
theorem goR_enc {l : List Ent} (hI : Inv l) (hs : Srt l) (hn : l.length < top62) (t : List UInt8) : takeNum (encI l ++ t) = some (l.length, l.flatMap entB ++ t) ∧ goR l.length [] (l.flatMap entB ++ t) = some (l, t) := by
  refine ⟨by rw [encI_eq, List.append_assoc]; exact take_putN hn _, ?_⟩
  have := goR_put l [] t (by rw [List.nil_append]; exact bes_of hI hs) hI.right
  rwa [List.nil_append] at this
theorem decR_put {l : List Ent} (hI : Inv l) (hs : Srt l) (hn : l.length < top62) : decR (encI l) = some l := by
  obtain ⟨h1, h2⟩ := goR_enc hI hs hn []
  rw [List.append_nil] at h1
  unfold decR
  rw [h1]
  simp only
  rw [h2]
/-- an index's bytes are no other's, however they go on -/
theorem enc_one {a b : List Ent} {s t : List UInt8} (ha : Inv a) (sa : Srt a) (na : a.length < top62) (hb : Inv b) (sb : Srt b) (nb : b.length < top62) (h : encI a ++ s = encI b ++ t) : a = b ∧ s = t := by
  obtain ⟨h1, h2⟩ := goR_enc ha sa na s
  obtain ⟨h3, h4⟩ := goR_enc hb sb nb t
  rw [h] at h1
  obtain ⟨e1, e2⟩ := Prod.mk.inj (Option.some.inj (h1.symm.trans h3))
  rw [e1, e2] at h2
  obtain ⟨e3, e4⟩ := Prod.mk.inj (Option.some.inj (h2.symm.trans h4))
  exact ⟨e3, e4⟩

theorem bes1_iff {k e : Ent} : bes1 k e = true ↔ (k.path = e.path → k.stage ≠ 0 ∧ e.stage ≠ 0) ∧ (k.stage = 0 → e.stage = 0 → under e.path k.path = false ∧ under k.path e.path = false) := by
  unfold bes1
  by_cases h1 : k.path = e.path <;> by_cases h2 : k.stage = 0 <;> by_cases h3 : e.stage = 0 <;> simp [h1, h2, h3]
theorem bes1_of {l : List Ent} (hI : Inv l) {a b : Ent} (ha : a ∈ l) (hb : b ∈ l) (hk : a.key ≠ b.key) : bes1 a b = true := by
  rw [bes1_iff]
  refine ⟨fun e => ⟨fun h0 => ?_, fun h0 => ?_⟩, fun h0 h1 => ⟨(hI.beside a ha b hb h0).2 h1, (hI.beside b hb a ha h1).2 h0⟩⟩
  · exact hk (by unfold Ent.key; rw [e, h0, (hI.beside a ha b hb h0).1 e.symm])
  · exact hk (by unfold Ent.key; rw [e, h0, (hI.beside b hb a ha h0).1 e])
theorem inv_lay {l : List Ent} (hI : Inv l) {e : Ent} (hr : IdxLaw.right e = true) (hb : ∀ k ∈ l, bes1 k e = true) : Inv (layE l e) := by
  unfold layE
  refine ⟨?_, fun x hx => ?_, fun a ha b hb' h0 => ?_⟩
  · unfold Uniq
    rw [List.map_cons, List.nodup_cons]
    refine ⟨fun hm => ?_, hI.uniq.filter _⟩
    obtain ⟨x, hx, hk⟩ := List.mem_map.1 hm
    have := (List.mem_filter.1 hx).2
    simp [hk] at this
  · rcases List.mem_cons.1 hx with rfl | hx
    · exact hr
    · exact hI.right x (List.mem_filter.1 hx).1
  · rcases List.mem_cons.1 ha with rfl | ha
    · rcases List.mem_cons.1 hb' with rfl | hb'
      · exact ⟨fun _ => h0, fun _ => PathLaw.under_irrefl _⟩
      · have h1 := bes1_iff.1 (hb b (List.mem_filter.1 hb').1)
        exact ⟨fun e => absurd h0 (h1.1 e).2, fun h2 => (h1.2 h2 h0).2⟩
    · have ha' := (List.mem_filter.1 ha).1
      rcases List.mem_cons.1 hb' with rfl | hb'
      · have h1 := bes1_iff.1 (hb a ha')
        exact ⟨fun e => absurd h0 (h1.1 e.symm).1, fun h2 => (h1.2 h0 h2).1⟩
      · exact hI.beside a ha' b (List.mem_filter.1 hb').1 h0
theorem goD_inv : ∀ (n : Nat) (l : List Ent) (r : Rd) (l' : List Ent) (r' : Rd), goD n l r = some (l', r') → Inv l → Inv l'
  | 0, l, r, l', r', h, hI => by
    simp only [goD, Option.some.injEq, Prod.mk.injEq] at h
    rw [← h.1]; exact hI
  | n + 1, l, r, l', r', h, hI => by
    rw [goD] at h
    split at h
    · simp only [Option.some.injEq, Prod.mk.injEq] at h
      rw [← h.1]; exact hI
    · split at h
      · rename_i hc
        exact goD_inv n _ _ _ _ h (inv_lay hI hc.1 (fun k hk => List.all_eq_true.1 hc.2 k hk))
      · cases h
theorem goD_put : ∀ (es l : List Ent) (t : List UInt8), Inv (es.reverse ++ l) → goD es.length l ⟨es.flatMap entB ++ t, false⟩ = some (es.reverse ++ l, ⟨t, false⟩)
  | [], l, t, _ => by simp [goD]
  | e :: es, l, t, hI => by
    have he : e ∈ (e :: es).reverse ++ l := by simp
    have hr := hI.right e he
    have hu := hI.uniq
    unfold Uniq at hu
    rw [List.reverse_cons, List.append_assoc, List.map_append, List.nodup_append] at hu
    have hu2 := List.nodup_cons.1 (by simpa using hu.2.1 : (e.key :: l.map Ent.key).Nodup)
    have hne : ∀ k ∈ l, k.key ≠ e.key := fun k hk h => hu2.1 (by rw [← h]; exact List.mem_map_of_mem hk)
    have hl : layE l e = e :: l := by
      unfold layE
      rw [List.filter_eq_self.2]
      intro k hk
      simp [hne k hk]
    rw [List.length_cons, goD, List.flatMap_cons, List.append_assoc]
    rw [ent_put hr]
    simp only [Bool.false_eq_true, if_false]
    rw [if_pos ⟨hr, List.all_eq_true.2 (fun k hk => bes1_of hI (by simp [hk]) he (hne k hk))⟩, hl]
    have := goD_put es (e :: l) t (by simpa using hI)
    simpa using this
theorem decP_inv {p : List UInt8} {l : List Ent} (h : decP p = some l) : Inv l ∧ p = encI (sortE l) := by
  unfold decP at h
  cases hg : goD (Rd.num ⟨p, false⟩).1 [] (Rd.num ⟨p, false⟩).2 with
  | none => rw [hg] at h; cases h
  | some x =>
    obtain ⟨l2, r⟩ := x
    rw [hg] at h
    simp only at h
    split at h
    · cases h
    · rename_i hc
      obtain rfl : l2 = l := Option.some.inj h
      rw [not_or] at hc
      exact ⟨goD_inv _ _ _ _ _ hg IdxLaw.inv_nil, (Classical.not_not.1 hc.2).symm⟩
theorem inv_perm {l k : List Ent} (hI : Inv l) (hp : k.Perm l) : Inv k :=
  ⟨hI.uniq.perm hp.symm, fun e he => hI.right e (hp.mem_iff.1 he), fun a ha b hb => hI.beside a (hp.mem_iff.1 ha) b (hp.mem_iff.1 hb)⟩
theorem inv_sort {l : List Ent} (hI : Inv l) : Inv (sortE l) := inv_perm hI (IdxLaw.sortE_perm l)
theorem decP_put {l : List Ent} (hI : Inv l) (hs : Srt l) (hn : l.length < top62) : ∃ l', decP (encI l) = some l' ∧ sortE l' = l ∧ Inv l' := by
  have hR : Inv l.reverse := inv_perm hI (List.reverse_perm l)
  have hS : sortE l.reverse = l := (IdxLaw.sortE_unique hR.uniq (List.reverse_perm l).symm hs).symm
  refine ⟨l.reverse, ?_, hS, hR⟩
  have hnum : Rd.num ⟨encI l, false⟩ = (l.length, ⟨l.flatMap entB, false⟩) := by
    unfold Rd.num
    rw [encI_eq, take_putN hn]
  have hg := goD_put l [] [] (by simpa using hR)
  rw [List.append_nil, List.append_nil] at hg
  unfold decP
  rw [hnum]
  simp only
  rw [hg]
  simp only
  rw [if_neg]
  rw [hS]
  simp
/-- BOTH DECODES ARE ALIKE -/
theorem dec_none {p : List UInt8} (hp : p.length < top62) (h : decP p = none) : decR p = none := by
  cases hr : decR p with
  | none => rfl
  | some l =>
    obtain ⟨h1, h2, rfl⟩ := decR_inv hr
    obtain ⟨l', h3, _⟩ := decP_put h1 h2 (Nat.lt_of_le_of_lt (encI_len l) hp)
    rw [h3] at h
    cases h
theorem dec_some {p : List UInt8} {l : List Ent} (hp : p.length < top62) (h : decP p = some l) : decR p = some (sortE l) ∧ Inv l := by
  obtain ⟨h1, rfl⟩ := decP_inv h
  exact ⟨decR_put (inv_sort h1) (IdxLaw.sortE_sorted l) (Nat.lt_of_le_of_lt (encI_len _) hp), h1⟩
/-- cut off, an index's bytes are none -/
theorem cut_none {l : List Ent} (hI : Inv l) (hs : Srt l) (hn : (encI l).length < top62) {j : Nat} (hj : j < (encI l).length) : decP ((encI l).take j) = none := by
  cases h : decP ((encI l).take j) with
  | none => rfl
  | some a =>
    obtain ⟨h1, h2⟩ := decP_inv h
    have h3 : encI (sortE a) ++ (encI l).drop j = encI l ++ [] := by rw [← h2, List.take_append_drop, List.append_nil]
    have h4 : (encI (sortE a)).length ≤ (encI l).length := by rw [← h2]; exact List.length_take_le' _ _
    obtain ⟨_, h5⟩ := enc_one (inv_sort h1) (IdxLaw.sortE_sorted a) (Nat.lt_of_le_of_lt (Nat.le_trans (encI_len _) h4) hn) hI hs (Nat.lt_of_le_of_lt (encI_len _) hn) h3
    have := congrArg List.length h5
    simp at this
    omega
/-- gone on, they are none -/
theorem more_none {l : List Ent} (hI : Inv l) (hs : Srt l) (hn : (encI l).length + 1 < top62) (c : UInt8) : decP (encI l ++ [c]) = none := by
  cases h : decP (encI l ++ [c]) with
  | none => rfl
  | some a =>
    obtain ⟨h1, h2⟩ := decP_inv h
    have h4 : (encI (sortE a)).length = (encI l).length + 1 := by rw [← h2]; simp
    obtain ⟨_, h5⟩ := enc_one hI hs (by have := encI_len l; omega) (inv_sort h1) (IdxLaw.sortE_sorted a) (by have := encI_len (sortE a); omega) (h2.trans (List.append_nil _).symm)
    cases h5
end Go.Proofs.YtjcelelgebohkaaGreatDoor
