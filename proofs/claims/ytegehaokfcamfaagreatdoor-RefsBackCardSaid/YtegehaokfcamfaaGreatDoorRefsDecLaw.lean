/-
  Plain law of a book's bytes: what refs.Decode makes of any bytes; a book's bytes are read back, whatever comes behind; cut off, they are bad. Condition: the book's invariant.
-/
import Derived.Test.YtegehaokfcamfaaGreatDoorRefsEnc
namespace Go.Proofs.YtegehaokfcamfaaGreatDoor
open RefsLaw (named okc Val Chg Txn there rightV zv rightT okChs goodC Refs Book Inv)

/-- the reader: its bytes; has something been wrong? -/
structure Rd where
  b : List UInt8
  bad : Bool
def Rd.num (r : Rd) : Nat × Rd := match takeNum r.b with
  | some (n, rest) => (n, ⟨rest, r.bad⟩)
  | none => (0, ⟨[], true⟩)
def Rd.text (r : Rd) : List UInt8 × Rd := match takeText r.b 1048576 with
  | some (s, rest) => (s, ⟨rest, r.bad⟩)
  | none => ([], ⟨[], true⟩)
def Rd.value (r : Rd) : Val × Rd := (⟨r.text.1, r.text.2.text.1⟩, r.text.2.text.2)
def Rd.chg (r : Rd) : Chg × Rd := (⟨r.text.1, r.text.2.value.1, r.text.2.value.2.value.1⟩, r.text.2.value.2.value.2)
/-- so many changes -/
def goC : Nat → List Chg → Rd → List Chg × Rd
  | 0, l, r => (l, r)
  | n + 1, l, r => if r.bad = true then (l, r) else goC n (l ++ [r.chg.1]) r.chg.2
/-- where a transaction's changes begin: their number -/
def Rd.head (r : Rd) : Nat × Rd := r.text.2.text.2.num.2.num
def Rd.txn (r : Rd) : Txn × Rd := (⟨r.text.1, r.text.2.text.1, (r.text.2.text.2.num.1 : Int), (goC r.head.1 [] r.head.2).1⟩, (goC r.head.1 [] r.head.2).2)
def Rd.mark (r : Rd) (ok : Bool) : Rd := ⟨r.b, r.bad || !ok⟩
/-- so many refs -/
def goF : Nat → (List UInt8 → Option Val) → Rd → (List UInt8 → Option Val) × Rd
  | 0, f, r => (f, r)
  | n + 1, f, r => if r.bad = true then (f, r) else goF n (upd f r.text.1 (some r.text.2.value.1)) (r.text.2.value.2.mark (named r.text.1 && there r.text.2.value.1))
/-- so many transactions -/
def goT : Nat → List Txn → Rd → List Txn × Rd
  | 0, l, r => (l, r)
  | n + 1, l, r => if r.bad = true then (l, r) else goT n (l ++ [r.txn.1]) (r.txn.2.mark (rightT r.txn.1))
def decF (p : List UInt8) : (List UInt8 → Option Val) × Rd := goF (Rd.num ⟨p, false⟩).1 (fun _ => none) (Rd.num ⟨p, false⟩).2
def decT (p : List UInt8) : List Txn × Rd := goT (decF p).2.num.1 [] (decF p).2.num.2

/-- a number's bytes have one form -/
theorem takeGo_inv : ∀ (b : List UInt8) (k acc v : Nat) (r : List UInt8), takeGo k acc b = some (v, r) → ∃ m, v = acc + m * 128 ^ k ∧ b = putNum m ++ r ∧ (k = 0 ∨ 0 < m)
  | [], _, _, _, _, h => by simp [takeGo] at h
  | c :: b, k, acc, v, r, h => by
    rw [takeGo] at h
    split at h
    · cases h
    · split at h
      · cases h
      · rename_i hk hc
        split at h
        · rename_i hlt
          split at h
          · simp only [Option.some.injEq, Prod.mk.injEq] at h
            obtain ⟨rfl, rfl⟩ := h
            have hl : c.toNat < 128 := hlt
            refine ⟨c.toNat, by rw [Nat.mod_eq_of_lt hl], ?_, ?_⟩
            · rw [putNum_lt hl]
              simp
            · rcases Nat.eq_zero_or_pos k with h0 | h0
              · exact .inl h0
              · refine .inr (Nat.pos_of_ne_zero fun e => hc ⟨?_, h0⟩)
                exact UInt8.toNat_inj.1 e
          · cases h
        · rename_i hge
          obtain ⟨m, h1, h2, h3⟩ := takeGo_inv b (k + 1) _ v r h
          have hm : 0 < m := by rcases h3 with h3 | h3 <;> omega
          have hg : 128 ≤ c.toNat := Nat.le_of_not_lt hge
          have hl := c.toNat_lt
          refine ⟨c.toNat % 128 + 128 * m, ?_, ?_, .inr (by omega)⟩
          · rw [h1, Nat.pow_succ, Nat.add_mul, Nat.add_assoc]
            congr 2
            rw [Nat.mul_comm 128 m, Nat.mul_assoc, Nat.mul_comm 128]
          · rw [putNum_ge (by omega), h2]
            have e1 : (c.toNat % 128 + 128 * m) / 128 = m := by omega
            have e2 : 128 + (c.toNat % 128 + 128 * m) % 128 = c.toNat := by omega
            rw [e1, e2]
            simp
theorem takeGo_lt : ∀ (b : List UInt8) (k acc v : Nat) (r : List UInt8), takeGo k acc b = some (v, r) → v < top62
  | [], _, _, _, _, h => by simp [takeGo] at h
  | c :: b, k, acc, v, r, h => by
    rw [takeGo] at h
    split at h
    · cases h
    · split at h
      · cases h
      · split at h
        · split at h
          · rename_i hlt
            simp only [Option.some.injEq, Prod.mk.injEq] at h
            rw [← h.1]; exact hlt
          · cases h
        · exact takeGo_lt b _ _ v r h
theorem takeNum_inv {b r : List UInt8} {v : Nat} (h : takeNum b = some (v, r)) : b = putNum v ++ r := by
  obtain ⟨m, h1, h2, _⟩ := takeGo_inv b 0 0 v r h
  simp at h1
  rw [h1]; exact h2
theorem takeNum_ext {b r : List UInt8} {v : Nat} (h : takeNum b = some (v, r)) (Y : List UInt8) : takeNum (b ++ Y) = some (v, r ++ Y) := by
  have h1 : v < top62 := takeGo_lt _ _ _ _ _ h
  rw [takeNum_inv h, List.append_assoc]
  exact take_putN h1 _
theorem takeText_inv {b s r : List UInt8} {most : Nat} (h : takeText b most = some (s, r)) : b = (putNum s.length ++ s) ++ r ∧ s.length ≤ most := by
  unfold takeText at h
  cases ht : takeNum b with
  | none => rw [ht] at h; cases h
  | some x =>
    obtain ⟨n, q⟩ := x
    rw [ht] at h
    simp only at h
    split at h
    · rename_i hc
      simp only [Option.some.injEq, Prod.mk.injEq] at h
      obtain ⟨rfl, rfl⟩ := h
      have h2 := takeNum_inv ht
      have hl : (q.take n).length = n := by rw [List.length_take]; omega
      refine ⟨?_, by omega⟩
      rw [hl, List.append_assoc, List.take_append_drop]
      exact h2
    · cases h
theorem takeText_put {s : List UInt8} {most : Nat} (h : s.length ≤ most) (h2 : s.length < top62) (l : List UInt8) : takeText (txt1 s ++ l) most = some (s, l) := by
  unfold txt1
  rw [List.append_assoc, takeText, take_putN h2]
  simp only
  rw [if_pos ⟨h, by simp⟩, List.take_left' rfl, List.drop_left' rfl]

theorem num_lt (r : Rd) : r.num.1 < top62 := by
  unfold Rd.num
  cases ht : takeNum r.b with
  | none => show 0 < top62; unfold top62; omega
  | some x => exact takeGo_lt _ _ _ _ _ ht
theorem text_short (r : Rd) : r.text.1.length ≤ 1048576 := by
  unfold Rd.text
  cases ht : takeText r.b 1048576 with
  | none => simp
  | some x => exact (takeText_inv ht).2

/- what was put is read -/
theorem num_put {n : Nat} (h : n < top62) (X : List UInt8) : Rd.num ⟨putNum n ++ X, false⟩ = (n, ⟨X, false⟩) := by
  unfold Rd.num
  rw [take_putN h]
theorem text_put {s : List UInt8} (h : s.length ≤ 1048576) (X : List UInt8) : Rd.text ⟨txt1 s ++ X, false⟩ = (s, ⟨X, false⟩) := by
  unfold Rd.text
  rw [takeText_put h (by unfold top62; omega)]
theorem value_put {v : Val} (h1 : v.id.length ≤ 1048576) (h2 : v.name.length ≤ 1048576) (X : List UInt8) : Rd.value ⟨txt1 v.id ++ (txt1 v.name ++ X), false⟩ = (v, ⟨X, false⟩) := by
  unfold Rd.value
  rw [text_put h1, text_put h2]
theorem chg_put {c : Chg} (h : goodC c = true) (X : List UInt8) : Rd.chg ⟨chB c ++ X, false⟩ = (c, ⟨X, false⟩) := by
  simp only [goodC, Bool.and_eq_true] at h
  obtain ⟨⟨⟨h1, h2⟩, h3⟩, _⟩ := h
  have a := named_len h1
  have b := rightV_len h2
  have d := rightV_len h3
  have e : chB c ++ X = txt1 c.ref ++ (txt1 c.old.id ++ (txt1 c.old.name ++ (txt1 c.new.id ++ (txt1 c.new.name ++ X)))) := by
    unfold chB
    simp only [txtB_cons, txtB_nil, List.append_assoc, List.nil_append]
  rw [e]
  unfold Rd.chg
  rw [text_put (by omega), value_put (by omega) (by omega), value_put (by omega) (by omega)]
theorem goC_put : ∀ (cs l : List Chg) (X : List UInt8), (∀ c ∈ cs, goodC c = true) → goC cs.length l ⟨cs.flatMap chB ++ X, false⟩ = (l ++ cs, ⟨X, false⟩)
  | [], l, X, _ => by simp [goC]
  | c :: cs, l, X, h => by
    rw [List.length_cons, goC, List.flatMap_cons, List.append_assoc, chg_put (h c (by simp))]
    simp only [Bool.false_eq_true, if_false]
    rw [goC_put cs (l ++ [c]) X (fun x hx => h x (by simp [hx]))]
    simp
theorem txn_put {t : Txn} (h : rightT t = true) (X : List UInt8) : Rd.txn ⟨txB t ++ X, false⟩ = (t, ⟨X, false⟩) := by
  obtain ⟨h1, h2, h3, h4, h5, _, h7⟩ := rightT_parts h
  have e : txB t ++ X = txt1 t.who ++ (txt1 t.text ++ (putNum t.stamp.toNat ++ (putNum t.chs.length ++ (t.chs.flatMap chB ++ X)))) := by
    unfold txB
    simp only [txtB_cons, txtB_nil, List.append_assoc, List.nil_append]
  rw [e]
  have e2 : Rd.head ⟨txt1 t.who ++ (txt1 t.text ++ (putNum t.stamp.toNat ++ (putNum t.chs.length ++ (t.chs.flatMap chB ++ X)))), false⟩ = (t.chs.length, ⟨t.chs.flatMap chB ++ X, false⟩) := by
    unfold Rd.head
    rw [text_put (by omega), text_put (by omega), num_put (by unfold top62; omega), num_put (by unfold top62; omega)]
  unfold Rd.txn
  rw [e2, goC_put _ _ _ (fun c hc => (RefsLaw.okChs_good h1 c hc).1), text_put (by omega), text_put (by omega), num_put (by unfold top62; omega), ← h4]
  simp
theorem goT_put : ∀ (ts l : List Txn) (X : List UInt8), (∀ t ∈ ts, rightT t = true) → goT ts.length l ⟨ts.flatMap txB ++ X, false⟩ = (l ++ ts, ⟨X, false⟩)
  | [], l, X, _ => by simp [goT]
  | t :: ts, l, X, h => by
    rw [List.length_cons, goT, List.flatMap_cons, List.append_assoc, txn_put (h t (by simp))]
    simp only [Bool.false_eq_true, if_false]
    rw [h t (by simp), Rd.mark]
    simp only [Bool.not_true, Bool.or_false]
    rw [goT_put ts (l ++ [t]) X (fun x hx => h x (by simp [hx]))]
    simp
theorem goF_put (f : Refs) : ∀ (ns : List (List UInt8)) (g : List UInt8 → Option Val) (X : List UInt8), (∀ s ∈ ns, named s = true ∧ there (f s) = true) →
    goF ns.length g ⟨ns.flatMap (refB f) ++ X, false⟩ = (fun s => if s ∈ ns then some (f s) else g s, ⟨X, false⟩)
  | [], g, X, _ => by simp [goF]
  | s :: ns, g, X, h => by
    obtain ⟨h1, h2⟩ := h s (by simp)
    have a := named_len h1
    have b := rightV_len (v := f s) (by unfold rightV; rw [h2]; simp)
    have e : refB f s ++ (ns.flatMap (refB f) ++ X) = txt1 s ++ (txt1 (f s).id ++ (txt1 (f s).name ++ (ns.flatMap (refB f) ++ X))) := by
      unfold refB
      simp only [txtB_cons, txtB_nil, List.append_assoc, List.nil_append]
    rw [List.length_cons, goF, List.flatMap_cons, List.append_assoc, e, text_put (by omega)]
    simp only [Bool.false_eq_true, if_false]
    rw [value_put (by omega) (by omega), h1, h2, Rd.mark]
    simp only [Bool.and_self, Bool.not_true, Bool.or_false]
    rw [goF_put f ns _ X (fun x hx => h x (by simp [hx]))]
    congr 1
    funext x
    by_cases hx : x ∈ ns
    · simp [hx]
    · by_cases hxs : x = s
      · subst hxs; simp [hx, upd]
      · simp [hx, hxs, upd]
/-- A BOOK'S BYTES ARE READ BACK -/
theorem dec_put {ns : List (List UInt8)} {bk : Book} (hI : Inv bk) (hN : IsNames bk.f ns) (h1 : ns.length < top62) (h2 : bk.txns.length < top62) (X : List UInt8) :
    Rd.num ⟨bookB ns bk ++ X, false⟩ = (ns.length, ⟨ns.flatMap (refB bk.f) ++ (putNum bk.txns.length ++ (bk.txns.flatMap txB ++ X)), false⟩) ∧
    decF (bookB ns bk ++ X) = (optF bk.f, ⟨putNum bk.txns.length ++ (bk.txns.flatMap txB ++ X), false⟩) ∧ decT (bookB ns bk ++ X) = (bk.txns, ⟨X, false⟩) := by
  have e : bookB ns bk ++ X = putNum ns.length ++ (ns.flatMap (refB bk.f) ++ (putNum bk.txns.length ++ (bk.txns.flatMap txB ++ X))) := by
    unfold bookB
    simp only [List.append_assoc]
  have ha : Rd.num ⟨bookB ns bk ++ X, false⟩ = (ns.length, ⟨ns.flatMap (refB bk.f) ++ (putNum bk.txns.length ++ (bk.txns.flatMap txB ++ X)), false⟩) := by
    rw [e, num_put h1]
  have hb : decF (bookB ns bk ++ X) = (optF bk.f, ⟨putNum bk.txns.length ++ (bk.txns.flatMap txB ++ X), false⟩) := by
    unfold decF
    rw [ha, goF_put bk.f ns _ _ (fun s hs => ?_)]
    · congr 1
      rw [← namesF_all hI hN]
      funext s
      simp [namesF]
    · rcases hI.val s with h | h
      · exact absurd h ((hN.2 s).1 hs).2
      · exact h
  refine ⟨ha, hb, ?_⟩
  unfold decT
  rw [hb]
  simp only
  rw [num_put h2, goT_put _ _ _ hI.txn]
  simp

/- bytes that go on -/
def Rd.ext (r : Rd) (Y : List UInt8) : Rd := ⟨r.b ++ Y, r.bad⟩
theorem num_ext {r : Rd} (h : r.num.2.bad = false) (Y : List UInt8) : r.bad = false ∧ (r.ext Y).num = (r.num.1, r.num.2.ext Y) := by
  unfold Rd.num Rd.ext at *
  cases ht : takeNum r.b with
  | none => rw [ht] at h; cases h
  | some x =>
    obtain ⟨n, q⟩ := x
    rw [ht] at h
    simp only at h ⊢
    rw [takeNum_ext ht]
    exact ⟨h, rfl⟩
theorem text_ext {r : Rd} (h : r.text.2.bad = false) (Y : List UInt8) : r.bad = false ∧ (r.ext Y).text = (r.text.1, r.text.2.ext Y) := by
  unfold Rd.text Rd.ext at *
  cases ht : takeText r.b 1048576 with
  | none => rw [ht] at h; cases h
  | some x =>
    obtain ⟨s, q⟩ := x
    rw [ht] at h
    simp only at h ⊢
    obtain ⟨h1, h2⟩ := takeText_inv ht
    have h3 : takeText (r.b ++ Y) 1048576 = some (s, q ++ Y) := by
      rw [h1, List.append_assoc]
      exact takeText_put h2 (by unfold top62; omega) _
    rw [h3]
    exact ⟨h, rfl⟩
theorem value_ext {r : Rd} (h : r.value.2.bad = false) (Y : List UInt8) : r.bad = false ∧ (r.ext Y).value = (r.value.1, r.value.2.ext Y) := by
  obtain ⟨h1, h2⟩ := text_ext (r := r.text.2) h Y
  obtain ⟨h3, h4⟩ := text_ext h1 Y
  refine ⟨h3, ?_⟩
  unfold Rd.value
  rw [h4, h2]
theorem chg_ext {r : Rd} (h : r.chg.2.bad = false) (Y : List UInt8) : r.bad = false ∧ (r.ext Y).chg = (r.chg.1, r.chg.2.ext Y) := by
  obtain ⟨h1, h2⟩ := value_ext (r := r.text.2.value.2) h Y
  obtain ⟨h3, h4⟩ := value_ext h1 Y
  obtain ⟨h5, h6⟩ := text_ext h3 Y
  refine ⟨h5, ?_⟩
  unfold Rd.chg
  rw [h6, h4, h2]
theorem goC_ext (Y : List UInt8) : ∀ (n : Nat) (l : List Chg) (r : Rd), (goC n l r).2.bad = false → r.bad = false ∧ goC n l (r.ext Y) = ((goC n l r).1, (goC n l r).2.ext Y)
  | 0, l, r, h => ⟨h, rfl⟩
  | n + 1, l, r, h => by
    rw [goC] at h ⊢
    by_cases hb : r.bad = true
    · rw [if_pos hb] at h; rw [h] at hb; cases hb
    · rw [if_neg hb] at h
      obtain ⟨h1, h2⟩ := goC_ext Y n _ _ h
      obtain ⟨h3, h4⟩ := chg_ext h1 Y
      refine ⟨h3, ?_⟩
      rw [goC, if_neg (by show ¬ r.bad = true; exact hb), if_neg hb, h4, h2]
theorem txn_ext {r : Rd} (h : r.txn.2.bad = false) (Y : List UInt8) : r.bad = false ∧ (r.ext Y).txn = (r.txn.1, r.txn.2.ext Y) := by
  obtain ⟨h1, h2⟩ := goC_ext Y _ _ _ h
  obtain ⟨h3, h4⟩ := num_ext (r := r.text.2.text.2.num.2) h1 Y
  obtain ⟨h5, h6⟩ := num_ext h3 Y
  obtain ⟨h7, h8⟩ := text_ext h5 Y
  obtain ⟨h9, h10⟩ := text_ext h7 Y
  refine ⟨h9, ?_⟩
  have e : (r.ext Y).head = (r.head.1, r.head.2.ext Y) := by
    unfold Rd.head
    rw [h10, h8, h6, h4]
  unfold Rd.txn
  rw [e, h2, h10, h8, h6]
theorem mark_ext {r : Rd} {ok : Bool} (h : (r.mark ok).bad = false) (Y : List UInt8) : r.bad = false ∧ (r.ext Y).mark ok = (r.mark ok).ext Y := by
  refine ⟨?_, rfl⟩
  unfold Rd.mark at h
  simp only [Bool.or_eq_false_iff] at h
  exact h.1
theorem goF_ext (Y : List UInt8) : ∀ (n : Nat) (f : List UInt8 → Option Val) (r : Rd), (goF n f r).2.bad = false → r.bad = false ∧ goF n f (r.ext Y) = ((goF n f r).1, (goF n f r).2.ext Y)
  | 0, f, r, h => ⟨h, rfl⟩
  | n + 1, f, r, h => by
    rw [goF] at h ⊢
    by_cases hb : r.bad = true
    · rw [if_pos hb] at h; rw [h] at hb; cases hb
    · rw [if_neg hb] at h
      obtain ⟨h1, h2⟩ := goF_ext Y n _ _ h
      obtain ⟨h3, h4⟩ := mark_ext h1 Y
      obtain ⟨h5, h6⟩ := value_ext h3 Y
      obtain ⟨h7, h8⟩ := text_ext h5 Y
      refine ⟨h7, ?_⟩
      rw [goF, if_neg (by show ¬ r.bad = true; exact hb), if_neg hb, h8, h6, h4, h2]
theorem goT_ext (Y : List UInt8) : ∀ (n : Nat) (l : List Txn) (r : Rd), (goT n l r).2.bad = false → r.bad = false ∧ goT n l (r.ext Y) = ((goT n l r).1, (goT n l r).2.ext Y)
  | 0, l, r, h => ⟨h, rfl⟩
  | n + 1, l, r, h => by
    rw [goT] at h ⊢
    by_cases hb : r.bad = true
    · rw [if_pos hb] at h; rw [h] at hb; cases hb
    · rw [if_neg hb] at h
      obtain ⟨h1, h2⟩ := goT_ext Y n _ _ h
      obtain ⟨h3, h4⟩ := mark_ext h1 Y
      obtain ⟨h5, h6⟩ := txn_ext h3 Y
      refine ⟨h5, ?_⟩
      rw [goT, if_neg (by show ¬ r.bad = true; exact hb), if_neg hb, h6, h4, h2]
theorem dec_ext {p : List UInt8} (h : (decT p).2.bad = false) (Y : List UInt8) : (decT (p ++ Y)).2 = (decT p).2.ext Y := by
  obtain ⟨h1, h2⟩ := goT_ext Y _ _ _ h
  obtain ⟨h3, h4⟩ := num_ext h1 Y
  obtain ⟨h5, h6⟩ := goF_ext Y _ _ _ h3
  obtain ⟨_, h8⟩ := num_ext h5 Y
  have e0 : (⟨p ++ Y, false⟩ : Rd) = (⟨p, false⟩ : Rd).ext Y := rfl
  have e : decF (p ++ Y) = ((decF p).1, (decF p).2.ext Y) := by
    unfold decF
    rw [e0, h8, h6]
  unfold decT
  rw [e]
  simp only
  rw [h4, h2]
/-- CUT OFF, A BOOK'S BYTES ARE BAD -/
theorem dec_cut {ns : List (List UInt8)} {bk : Book} (hI : Inv bk) (hN : IsNames bk.f ns) (h1 : ns.length < top62) (h2 : bk.txns.length < top62) {p Y : List UInt8} (hY : Y ≠ []) (hp : p ++ Y = bookB ns bk) : (decT p).2.bad = true := by
  cases hb : (decT p).2.bad with
  | true => rfl
  | false =>
    have h3 := dec_ext hb Y
    have h4 := (dec_put hI hN h1 h2 []).2.2
    rw [List.append_nil, ← hp] at h4
    rw [h4] at h3
    have h5 := congrArg Rd.b h3
    simp only [Rd.ext] at h5
    exact absurd (List.append_eq_nil_iff.1 h5.symm).2 hY

/- how long -/
theorem num_len (r : Rd) : r.num.2.b.length ≤ r.b.length := by
  unfold Rd.num
  cases ht : takeNum r.b with
  | none => simp
  | some x => exact Nat.le_of_lt (takeNum_len ht)
theorem num_bad (r : Rd) : r.num.2.bad = false → r.bad = false := by
  unfold Rd.num
  cases ht : takeNum r.b with
  | none => simp
  | some x => exact fun h => h
theorem text_len (r : Rd) : r.text.2.b.length ≤ r.b.length ∧ (r.text.2.bad = false → r.text.2.b.length < r.b.length) ∧ (r.text.2.bad = false → r.bad = false) := by
  unfold Rd.text
  cases ht : takeText r.b 1048576 with
  | none => simp
  | some x =>
    have h1 := congrArg List.length (takeText_inv ht).1
    simp only [List.length_append] at h1
    have h2 := putNum_len_pos x.1.length
    exact ⟨by simp only; omega, fun _ => by simp only; omega, fun h => h⟩
theorem value_len (r : Rd) : r.value.2.b.length ≤ r.b.length ∧ (r.value.2.bad = false → r.value.2.b.length < r.b.length) ∧ (r.value.2.bad = false → r.bad = false) := by
  have h1 := text_len r
  have h2 := text_len r.text.2
  unfold Rd.value
  exact ⟨by simp only; omega, fun h => by have := h2.2.1 h; simp only; omega, fun h => h1.2.2 (h2.2.2 h)⟩
theorem chg_len (r : Rd) : r.chg.2.b.length ≤ r.b.length ∧ (r.chg.2.bad = false → r.chg.2.b.length < r.b.length) ∧ (r.chg.2.bad = false → r.bad = false) := by
  have h1 := text_len r
  have h2 := value_len r.text.2
  have h3 := value_len r.text.2.value.2
  unfold Rd.chg
  exact ⟨by simp only; omega, fun h => by have := h3.2.1 h; simp only; omega, fun h => h1.2.2 (h2.2.2 (h3.2.2 h))⟩
theorem goC_len : ∀ (n : Nat) (l : List Chg) (r : Rd), (goC n l r).2.b.length ≤ r.b.length ∧ ((goC n l r).2.bad = false → r.bad = false)
  | 0, l, r => ⟨Nat.le_refl _, fun h => h⟩
  | n + 1, l, r => by
    rw [goC]
    by_cases hb : r.bad = true
    · rw [if_pos hb]; exact ⟨Nat.le_refl _, fun h => h⟩
    · rw [if_neg hb]
      have h1 := goC_len n (l ++ [r.chg.1]) r.chg.2
      have h2 := chg_len r
      exact ⟨by omega, fun h => h2.2.2 (h1.2 h)⟩
theorem head_len (r : Rd) : r.head.2.b.length ≤ r.b.length := by
  have h1 := text_len r
  have h2 := text_len r.text.2
  have h3 := num_len r.text.2.text.2
  have h4 := num_len r.text.2.text.2.num.2
  unfold Rd.head
  omega
theorem txn_len (r : Rd) : r.txn.2.b.length ≤ r.b.length ∧ (r.txn.2.bad = false → r.txn.2.b.length < r.b.length) ∧ (r.txn.2.bad = false → r.bad = false) := by
  have h0 := head_len r
  have h1 := goC_len r.head.1 [] r.head.2
  have e : r.txn.2 = (goC r.head.1 [] r.head.2).2 := rfl
  rw [e]
  have t1 := text_len r
  have t2 := text_len r.text.2
  have t3 := num_len r.text.2.text.2
  have t4 := num_len r.text.2.text.2.num.2
  have t5 := num_bad r.text.2.text.2
  have t6 := num_bad r.text.2.text.2.num.2
  have e2 : r.head.2 = r.text.2.text.2.num.2.num.2 := rfl
  refine ⟨by omega, fun h => ?_, fun h => ?_⟩
  · have h2 : r.text.2.bad = false := t2.2.2 (t5 (t6 (e2 ▸ h1.2 h)))
    have := t1.2.1 h2
    have e3 : r.head.2.b.length ≤ r.text.2.b.length := by rw [e2]; omega
    omega
  · exact t1.2.2 (t2.2.2 (t5 (t6 (e2 ▸ h1.2 h))))
end Go.Proofs.YtegehaokfcamfaaGreatDoor
