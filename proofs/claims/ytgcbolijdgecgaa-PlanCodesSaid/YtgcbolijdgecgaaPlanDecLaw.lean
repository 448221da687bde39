/-
  Reading a plan's bytes back, in plain Lean: what the program's reader makes of them. No condition, no program.
-/
import Derived.Test.YtgcbolijdgecgaaPlanEnc
namespace Go.Proofs.Ytgcbolijdgecgaa

/-- the reader: its bytes; has something been wrong? -/
structure Rd where
  b : List UInt8
  bad : Bool

def Rd.num (r : Rd) : Nat × Rd := match takeNum r.b with
  | some (n, rest) => (n, ⟨rest, r.bad⟩)
  | none => (0, ⟨[], true⟩)
def Rd.id_ (r : Rd) : List UInt8 × Rd := if r.b.length < 32 then ([], ⟨r.b, true⟩) else (r.b.take 32, ⟨r.b.drop 32, r.bad⟩)
def Rd.text (r : Rd) : List UInt8 × Rd := match takeText r.b 1000 with
  | some (s, rest) => (s, ⟨rest, r.bad⟩)
  | none => ([], ⟨[], true⟩)

/-- n ids, as long as nothing is wrong -/
def Rd.ids : Nat → List (List UInt8) → Rd → List (List UInt8) × Rd
  | 0, acc, r => (acc, r)
  | n + 1, acc, r => if r.bad then (acc, r) else Rd.ids n (acc ++ [r.id_.1]) r.id_.2

/-- what Decode reads -/
structure Got where
  kind : Nat
  ss : List (List UInt8)
  at_ : Nat
  orig : List UInt8
  who : List UInt8
  stamp : Nat
  bad : Bool

def gotOf (b : List UInt8) : Got :=
  let r1 := Rd.num ⟨b, false⟩
  let r2 := r1.2.num
  let r3 := Rd.ids r2.1 [] r2.2
  let r4 := r3.2.num
  let r5 := r4.2.id_
  let r6 := r5.2.text
  let r7 := r6.2.num
  ⟨r1.1, r3.1, r4.1, r5.1, r6.1, r7.1, r7.2.bad⟩

theorem num_put {n : Nat} (h : n < top62) (l : List UInt8) : Rd.num ⟨putNum n ++ l, false⟩ = (n, ⟨l, false⟩) := by simp [Rd.num, take_put h]
theorem id_put {s : List UInt8} (h : s.length = 32) (l : List UInt8) : Rd.id_ ⟨s ++ l, false⟩ = (s, ⟨l, false⟩) := by
  have h1 : ¬ (s ++ l).length < 32 := by simp; omega
  simp only [Rd.id_]
  rw [if_neg h1, List.take_left' h, List.drop_left' h]
theorem text_put {s : List UInt8} (h : s.length ≤ 1000) (l : List UInt8) : Rd.text ⟨putNum s.length ++ s ++ l, false⟩ = (s, ⟨l, false⟩) := by
  have h1 : takeText (putNum s.length ++ s ++ l) 1000 = some (s, l) := by
    rw [List.append_assoc, takeText, take_put (by unfold top62; omega)]
    simp only
    rw [if_pos ⟨h, by simp⟩, List.take_left' rfl, List.drop_left' rfl]
  simp only [Rd.text, h1]
theorem ids_put : ∀ (ss acc : List (List UInt8)) (l : List UInt8), (∀ s ∈ ss, s.length = 32) → Rd.ids ss.length acc ⟨ss.flatten ++ l, false⟩ = (acc ++ ss, ⟨l, false⟩)
  | [], acc, l, _ => by simp [Rd.ids]
  | s :: ss, acc, l, h => by
    have h1 := id_put (h s (by simp)) (ss.flatten ++ l)
    simp only [List.length_cons, List.flatten_cons, List.append_assoc, Rd.ids]
    rw [h1]
    simp only [Bool.false_eq_true, if_false]
    rw [ids_put ss (acc ++ [s]) l (fun t ht => h t (by simp [ht]))]
    simp

/-- WHAT WAS ENCODED IS READ -/
theorem got_enc {kind at_ stamp : Nat} {ss : List (List UInt8)} {orig who : List UInt8} (h : PlanOk ⟨kind, ss, at_, orig, who, stamp⟩) : gotOf (encP kind ss at_ orig who stamp) = ⟨kind, ss, at_, orig, who, stamp, false⟩ := by
  obtain ⟨⟨_, hn, _, hat, ho, hw, _, hst⟩, _, hk, hs⟩ := h
  simp only at hn hat ho hw hst hk hs
  have e : encP kind ss at_ orig who stamp = putNum kind ++ (putNum ss.length ++ (ss.flatten ++ (putNum at_ ++ (orig ++ ((putNum who.length ++ who) ++ (putNum stamp ++ [])))))) := by
    simp [encP, List.append_assoc]
  have k1 : kind < top62 := by unfold top62; omega
  have k2 : ss.length < top62 := by unfold top62; omega
  have k3 : at_ < top62 := by unfold top62; omega
  have k4 : stamp < top62 := by unfold top62; omega
  simp only [gotOf]
  rw [e, num_put k1, num_put k2, ids_put ss [] _ hs]
  simp only
  rw [num_put k3, id_put ho, text_put hw, num_put k4]
  simp
end Go.Proofs.Ytgcbolijdgecgaa
