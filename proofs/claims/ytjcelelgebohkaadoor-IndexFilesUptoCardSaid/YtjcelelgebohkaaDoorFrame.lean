/-
  Worlds that differ in named blocks alone; rows and blocks outside of them; append onto a row of one's own among them. Plain lemmas.
-/
import Derived.Test.YtjcelelgebohkaaDoorOwn
namespace Go.Proofs.YtjcelelgebohkaaDoor
open Go.RowKit

/-- w' is w, but for new blocks and for blocks of E -/
structure Fr (E : Nat → Prop) (w w' : World) : Prop where
  os : w'.os = w.os
  tape : w'.tape = w.tape
  output : w'.output = w.output
  size : w.heap.size ≤ w'.heap.size
  block : ∀ k, k < w.heap.size → ¬ E k → w'.heap[k]? = w.heap[k]?

section
variable {E : Nat → Prop} {a b c w w' : World}
theorem Fr.refl (E : Nat → Prop) (w : World) : Fr E w w := ⟨rfl, rfl, rfl, Nat.le_refl _, fun _ _ _ => rfl⟩
theorem Fr.trans (h : Fr E a b) (k : Fr E b c) : Fr E a c :=
  ⟨k.os.trans h.os, k.tape.trans h.tape, k.output.trans h.output, Nat.le_trans h.size k.size, fun i hi he => (k.block i (Nat.lt_of_lt_of_le hi h.size) he).trans (h.block i hi he)⟩
theorem Fr.of_below (h : Below w.heap.size w w') : Fr E w w' := ⟨h.os, h.tape, h.output, h.size, fun k hk _ => h.block k hk⟩
theorem Fr.of_grown {row : Option Nat} (h : w.grownBy w' row) (hr : ∀ k, row = some k → E k) : Fr E w w' :=
  ⟨h.os, h.tape, h.output, h.size, fun k hk he => h.block k hk (fun e => he (hr k e.symm))⟩
theorem Fr.alloc (h : Fr E a w) (o : Obj) : Fr E a (w.alloc o) := h.trans (.of_below (balloc (Below.refl _ _) o))
theorem Fr.drew (h : Fr E a w) : Fr E a w.drew := ⟨h.os, h.tape, h.output, h.size, h.block⟩
theorem Fr.drewN (h : Fr E a w) (n : Nat) : Fr E a (w.drewN n) := ⟨h.os, h.tape, h.output, h.size, h.block⟩
theorem Fr.step (h : Fr E a w) (hb : Below w.heap.size w w') : Fr E a w' := h.trans (.of_below hb)
theorem Fr.setCell (h : Fr E a w) {p : Addr} (hp : E p.block) (u : Value) : Fr E a (w.setCell p u) :=
  h.trans ⟨rfl, rfl, rfl, by rw [setCell_size]; exact Nat.le_refl _, fun k _ he => Below.heap_setCell w p u k (fun e => he (e ▸ hp))⟩
theorem Fr.weak {F : Nat → Prop} (h : Fr E a w) (hEF : ∀ k, E k → F k) : Fr F a w := ⟨h.os, h.tape, h.output, h.size, fun k hk he => h.block k hk (fun e => he (hEF k e))⟩
/-- all that may turn lies above B -/
theorem Fr.below {B : Nat} (h : Fr E w w') (hB : B ≤ w.heap.size) (hE : ∀ k, E k → B ≤ k) : Below B w w' :=
  ⟨h.os, h.tape, h.output, h.size, fun k hk => h.block k (by omega) (fun e => by have := hE k e; omega)⟩
theorem Fr.blk {g : Nat} {t : TypeId} {cs : Array Value} (h : Fr E w w') (hb : Blk w g t cs) (hg : ¬ E g) : Blk w' g t cs := (h.block g hb.lt hg).trans hb
theorem Fr.lt {g : Nat} (h : Fr E w w') (hg : g < w.heap.size) : g < w'.heap.size := Nat.lt_of_lt_of_le hg h.size
theorem Fr.cell (h : Fr E w w') {p : Addr} (hp : p.block < w.heap.size) (he : ¬ E p.block) : w'.cell? p = w.cell? p := World.cell?_of_block (h.block _ hp he)
end

/-- a slice that reads as xs, and lies outside of E -/
def SlF (E : Nat → Prop) (w : World) (sz : Nat) (A : Option Addr) (n : Nat) (xs : List Value) : Prop :=
  Sl w sz A n xs ∧ ∀ b off, 0 < n → A = some ⟨b, off, none⟩ → ¬ E b
section
variable {E : Nat → Prop} {w w' : World} {sz n : Nat} {A : Option Addr} {xs : List Value}
theorem SlF.fr (h : SlF E w sz A n xs) (hf : Fr E w w') : SlF E w' sz A n xs := by
  refine ⟨⟨h.1.1, fun hn => ?_⟩, h.2⟩
  obtain ⟨b, off, e, hb, hc⟩ := h.1.2 hn
  exact ⟨b, off, e, hf.lt hb, fun k hk => (hf.cell hb (h.2 b off hn e)).trans (hc k hk)⟩
theorem SlF.step (h : SlF E w sz A n xs) (hb : Below w.heap.size w w') : SlF E w' sz A n xs := h.fr (.of_below hb)
theorem SlF.weak {F : Nat → Prop} (h : SlF E w sz A n xs) (hEF : ∀ k, F k → E k) : SlF F w sz A n xs := ⟨h.1, fun b off hn e hF => h.2 b off hn e (hEF b hF)⟩
theorem SlF.nil_ : SlF E w sz A 0 [] := ⟨Sl.nil_, fun _ _ h => absurd h (by omega)⟩
/-- a row that lies below B, where E lies from B on -/
theorem Sl.frB {B : Nat} (h : Sl w sz A n xs) (hB : ∀ b off, 0 < n → A = some ⟨b, off, none⟩ → b < B) (hE : ∀ k, E k → B ≤ k) : SlF E w sz A n xs :=
  ⟨h, fun b off hn e hb => by have := hB b off hn e; have := hE b hb; omega⟩
end
/-- where a slice lies -/
theorem Sl.lt_ {w : World} {sz n : Nat} {A : Option Addr} {xs : List Value} (h : Sl w sz A n xs) : ∀ b off, 0 < n → A = some ⟨b, off, none⟩ → b < w.heap.size := by
  intro b off hn e
  obtain ⟨b', off', e', hb, _⟩ := h.2 hn
  rw [e] at e'
  cases e'
  exact hb
/-- texts don't lie in a block that holds none -/
theorem Sl.not_in {w : World} {A : Option Addr} {n g : Nat} {t : TypeId} {ss : List (List UInt8)} {cs : Array Value} (h : Sl w 1 A n (strs ss)) (hg : Blk w g t cs) (hno : ∀ (i : Nat) (s : List UInt8), cs[i]? ≠ some (S s)) : ∀ b off, 0 < n → A = some ⟨b, off, none⟩ → b ≠ g := by
  rintro b off hn e rfl
  obtain ⟨b', off', s, e', _, hc⟩ := h.str hn
  rw [e] at e'
  cases e'
  rw [hg.cell] at hc
  exact hno _ _ hc

section
variable {P : Program} (w : World)
/-- append onto a row of one's own, inside a statement that draws its order; what else turned is not said here -/
theorem step_append_row {ops : Array Oper} {o : Oper} {a : Act} {K : Act → World → Prop} {Q : Exit → Act → World → Prop} {X : Prop} (hgd : o.guard = none) (s x : Operand) (t : TypeId)
    (ho : o.op = .call { callee := .builtin .append, args := #[s, x], argTypes := #[t, t] })
    (base : Nat) (e : TypeId) (i : TypeInfo) (z : Value) (size bytes : Nat) (ht : P.underlying t = some (.slice e)) (hi : P.info? e = some i) (hz : i.zero = some z)
    (hsize : i.size = size) (hby : i.bytes = bytes) (hzs : z.cells.size = size) (hsz : 0 < size)
    (Ad : Option Addr) (n cd : Nat) (xs : List Value) (hs : a.eval s = .slice Ad n cd) (hown : w.ownsRow base e size (.slice Ad n cd) n xs) (hbase : base ≤ w.heap.size)
    (A : Option Addr) (m c : Nat) (news : List Value) (hx : a.eval x = .slice A m c) (hr : Sl w size A m news) (h1 : ∀ u ∈ news, u.oneCell' = true)
    (h63 : n + m ≤ maxLen) (hbytes : (n + m) * bytes ≤ 140737488355328)
    (h : ∀ A' c' w', w'.ownsRow base e size (.slice A' (n + m) c') (n + m) (xs ++ news) → w.grownBy w' (Value.slice Ad n cd).ownBlock → (∀ k, (Value.slice Ad n cd).ownBlock = some k → base ≤ k) → K (a.put o.dst (.slice A' (n + m) c')) w') :
    if Region.wanted o (yielded ops a.tmps) = true then Oper.wp P o a w K Q else X := by
  have hw : Region.wanted o (yielded ops a.tmps) = true := by simp [Region.wanted, hgd]
  rw [if_pos hw]
  obtain ⟨A', c', w', hrun, h2, h3, h4⟩ := run_append_sl (P := P) w base t o.type e i z size bytes ht hi hz hsize hby hzs hsz _ n xs hown A m c news hr h1 h63 hbytes hbase
  unfold Oper.wp execOp
  simp only [ho, resolve, invoke, builtin, Sem.run_bind, Sem.run_pure, Result.andThen_ok, List.map_toArray, List.map_cons, List.map_nil, hs, hx, hrun]
  exact h A' c' w' h2 h3 (fun k hk => (hown.lt k hk).1)
end
end Go.Proofs.YtjcelelgebohkaaDoor
