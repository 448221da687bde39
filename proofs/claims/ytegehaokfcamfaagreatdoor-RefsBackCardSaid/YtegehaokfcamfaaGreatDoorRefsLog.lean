/-
  refs.Book.Log: slices.Backward over transactions; the loop that collects. Condition: the book lies in its home.
-/
import Derived.Test.YtegehaokfcamfaaGreatDoorKitZ
import Derived.Test.YtegehaokfcamfaaGreatDoorRefsHas
import Derived.RangeFuncNested
import Derived.RangeFuncBound
import Derived.RangeFuncCalls
import Derived.RangeFuncLeaves
import Derived.RangeFuncBox
import Derived.Shelf.Abstract
import Derived.OwnWalkIn
import Derived.TacticsInMore
import Derived.LoopNIn
import Derived.LoopIn
import Derived.Maps.AppendAt
namespace Go.Proofs.YtegehaokfcamfaaGreatDoor
open Go.RowKit Go.Shelf
open RefsLaw (named okc Val Chg Txn there rightV zv rightT okChs goodC Refs Book Inv)

attribute [local go_sem] Oper.semAt_some

/-- what comes: the last first, each with its index -/
def ys (xs : List TxG) : List (Nat × TxG) := (xs.mapIdx fun i x => (i, x)).reverse
theorem ys_len (xs : List TxG) : (ys xs).length = xs.length := by simp [ys]
theorem ys_at {xs : List TxG} {n k j : Nat} {x : TxG} (hl : xs.length = n) (hj : j + k + 1 = n) (hx : xs[j]? = some x) : (ys xs)[k]? = some (j, x) := by
  unfold ys
  rw [List.getElem?_reverse (by simp; omega), List.getElem?_mapIdx, List.length_mapIdx, show xs.length - 1 - k = j by omega, hx]
  rfl
theorem ys_snd (xs : List TxG) : (ys xs).map (·.2) = xs.reverse := by
  unfold ys
  rw [List.map_reverse]
  congr 1
  apply List.ext_getElem?
  intro i
  simp
  cases xs[i]? <;> rfl

/-- what a round keeps: all that lies low, and the box that the iterator reads -/
def KpB (n₀ Bs : Nat) (W W' : World) : Prop := Below n₀ W W' ∧ ∀ v, W.cell? ⟨Bs, 0, none⟩ = some v → W'.cell? ⟨Bs, 0, none⟩ = some v
theorem KpB.t {n₀ Bs : Nat} {A B C : World} (h : KpB n₀ Bs A B) (k : KpB n₀ Bs B C) : KpB n₀ Bs A C := ⟨h.1.trans k.1, fun v hv => k.2 v (h.2 v hv)⟩
theorem KpB.b {n₀ Bs : Nat} {w : World} (hn : n₀ ≤ w.heap.size) (W : World) (l : Nat) (o o' : Obj) (hl : w.heap.size ≤ l) (h : W.heap[l]? = some o) (ho : o.isCells = false) (hw : o.isWalk = false) : KpB n₀ Bs W (W.putObj l o') :=
  ⟨belowK_b hn W l o o' hl h ho hw, fun _ hv => cell_kept hv (grownBy_putObj' W l o') (fun r e => by cases e; exact ⟨o, h, ho⟩)⟩

/-- what comes, each with what is known of it -/
def ysP (p : Nat × TxG → Prop) (xs : List TxG) (h : ∀ y ∈ ys xs, p y) : List { y // p y } := (ys xs).pmap (fun y hy => ⟨y, hy⟩) h
theorem ysP_len {p : Nat × TxG → Prop} {xs : List TxG} {h : ∀ y ∈ ys xs, p y} : (ysP p xs h).length = xs.length := by simp [ysP, ys_len]
theorem ysP_at {p : Nat × TxG → Prop} {xs : List TxG} {h : ∀ y ∈ ys xs, p y} {n k j : Nat} {x : TxG} (hl : xs.length = n) (hj : j + k + 1 = n) (hx : xs[j]? = some x) : ∃ hp : p (j, x), (ysP p xs h)[k]? = some ⟨(j, x), hp⟩ := by
  have h1 := ys_at hl hj hx
  refine ⟨h _ (List.mem_of_getElem? h1), ?_⟩
  unfold ysP
  rw [List.getElem?_pmap]
  simp [h1]
theorem ysP_fst {p : Nat × TxG → Prop} {xs : List TxG} {h : ∀ y ∈ ys xs, p y} : (ysP p xs h).map (·.1) = ys xs := by
  unfold ysP
  rw [List.map_pmap]
  simp

abbrev encB {p : Nat × TxG → Prop} (x : { y // p y }) : Array Value := #[I (x.1.1 : Int), txV x.1.2.who x.1.2.text x.1.2.stamp x.1.2.A x.1.2.n x.1.2.c]

set_option maxRecDepth 100000 in
set_option maxHeartbeats 2000000 in
theorem back1_in (n : Nat) (hn : 1 ≤ n) (l Bs n₀ : Nat) (A : Option Addr) (m c : Nat) (xs : List TxG) (hm : m ≤ 1000000) (q : Nat × TxG → Prop) (hq : ∀ y ∈ ys xs, q y) (J Jx : List { y // q y } → World → Prop)
    (hY : ∀ pre x W, J pre W → pre.length < m → YieldAt Fence.wide (n - 1) Tryz.prog l (encB x) W fun e W' =>
      (e = .returned (.bool true) ∧ J (pre ++ [x]) W' ∧ KpB n₀ Bs W W') ∨ (e = .returned (.bool false) ∧ Jx (pre ++ [x]) W'))
    (W : World) (hBs : W.cell? ⟨Bs, 0, none⟩ = some (.slice A m c)) (hS : Sl W 4 A m (txs xs)) (hlow : ∀ b off, 0 < m → A = some ⟨b, off, none⟩ → b < n₀) (h0 : J [] W) :
    CallsIn Fence.wide n Tryz.prog 65 #[.func (.yield l) #[] #[], .pointer (some ⟨Bs, 0, none⟩)] W fun e W' => (∃ v, e = .returned v) ∧
      ((∃ zs, zs = ysP q xs hq ∧ J zs W') ∨ (∃ pre, pre <+: ysP q xs hq ∧ Jx pre W')) := by
  have hlen := txs_count hS
  have Hlen := Lib.hid hlen
  have HS := Lib.hid hS
  have Hlow := Lib.hid hlow
  have HY := Lib.hid hY
  clear hlen hS hlow hY
  refine callsIn_of_wp Tryz.func65 rfl trivial ?_ rfl
  simp only [Tryz.ntmps65, List.size_toArray, List.length_cons, List.length_nil, Nat.reduceAdd, Nat.reduceSub, Array.replicate_succ, Array.replicate_zero, List.push_toArray, List.append_toArray, List.nil_append, List.cons_append]
  gi_wp2
  gi_loopw [3] (fun i wr => ∃ (k : Nat) (z : Int), k ≤ m ∧ i = .int .i64 z ∧ Hid (z = (m : Int) - 1 - k) ∧ J ((ysP q xs hq).take k) wr ∧ KpB n₀ Bs W wr) (fun i _ => (intOf i + 1).toNat)
  case atStart => exact ⟨0, _, Nat.zero_le _, rfl, Lib.hid (by omega), h0, Below.refl _ _, fun _ h => h⟩
  case round =>
    obtain ⟨k, z, hk, rfl, hz, hJs, hnx⟩ := hrel
    have Hnx := Lib.hid hnx
    have hc := hnx.2 _ hBs
    by_cases hlt : k < m
    · obtain ⟨j, hj⟩ : ∃ j, m = j + k + 1 := ⟨m - 1 - k, by omega⟩
      obtain rfl : z = (j : Int) := by rw [hz.out]; omega
      obtain ⟨b, off, x, rfl, hb, hx, c0, c1, c2, c3⟩ := HS.out.txn (k := j) (by omega)
      have hbn := Hlow.out b off (by omega) rfl
      have d0 := (hnx.1.cell (p := ⟨b, off + j * 4, none⟩) hbn).trans c0
      have d1 := (hnx.1.cell (p := ⟨b, off + j * 4 + 1, none⟩) hbn).trans c1
      have d2 := (hnx.1.cell (p := ⟨b, off + j * 4 + 2, none⟩) hbn).trans c2
      have d3 := (hnx.1.cell (p := ⟨b, off + j * 4 + 3, none⟩) hbn).trans c3
      obtain ⟨hpq, hys0⟩ := ysP_at (h := hq) Hlen.out (by omega : j + k + 1 = m) hx
      have hys := Lib.hid hys0
      have hp : ((ysP q xs hq).take k).length < m := by rw [List.length_take, ysP_len, Hlen.out]; omega
      obtain ⟨fn, tmps, assign, body, hy, hR⟩ := HY.out _ ⟨(j, x), hpq⟩ wr hJs hp
      dsimp only [encB] at hy
      have hjm : j < m := by omega
      have HJ := Lib.hid hj
      clear hx hnx c0 c1 c2 c3 hp hj hys0
      gi_wp2
      refine hR.mono ?_
      rintro e W3 (⟨rfl, hJ3, hk3⟩ | ⟨rfl, hJx3⟩)
      · gi_wp2
        go_roundw
        case rel => exact ⟨k + 1, (j : Int) - 1, by omega, rfl, Lib.hid (by have := HJ.out; omega), by rw [List.take_add_one, hys.out]; exact hJ3, Hnx.out.t hk3⟩
        case measure => simp [intOf]
      · gi_wp2
        refine bodyPost_ret (results_none rfl _ _ _) rfl ?_
        exact ⟨⟨_, rfl⟩, .inr ⟨(ysP q xs hq).take (k + 1), List.take_prefix _ _, by rw [List.take_add_one, hys.out]; exact hJx3⟩⟩
    · obtain rfl : k = m := by omega
      obtain rfl : z = -1 := by rw [hz.out]; omega
      rw [List.take_of_length_le (by rw [ysP_len, Hlen.out]; exact Nat.le_refl _)] at hJs
      clear hnx
      gi_wp2
      go_end0
      exact ⟨⟨_, rfl⟩, .inl ⟨_, rfl, hJs⟩⟩

set_option maxHeartbeats 1000000 in
theorem backward_any (A : Option Addr) (m c : Nat) (w : World) :
    Calls Tryz.prog 41 #[.slice A m c] w fun e w' => e = .returned (.func (.func 65) #[] #[.pointer (some ⟨w.heap.size, 0, none⟩)]) ∧ w' = w.alloc (.cells #[.slice A m c] 61) := by
  go_enter Tryz.func41, Tryz.ntmps41
  go_wp2
  go_ret
  exact ⟨rfl, rfl⟩
theorem back_stops (n : Nat) (hn : 1 ≤ n) (Bs n₀ : Nat) (A : Option Addr) (m c : Nat) (xs : List TxG) (hm : m ≤ 1000000) (q : Nat × TxG → Prop) (hq : ∀ y ∈ ys xs, q y) (w : World) (hBs : w.cell? ⟨Bs, 0, none⟩ = some (.slice A m c)) (hS : Sl w 4 A m (txs xs)) (hlow : ∀ b off, 0 < m → A = some ⟨b, off, none⟩ → b < n₀) :
    SeqStopsK Fence.wide n Tryz.prog 65 #[.pointer (some ⟨Bs, 0, none⟩)] (encB (p := q)) (KpB n₀ Bs) (fun zs => zs = ysP q xs hq) (fun pre => pre <+: ysP q xs hq) m w := fun l J Jx W hW _ _ hY h0 =>
  back1_in n hn l Bs n₀ A m c xs hm q hq J Jx hY W ((hW.cell (p := ⟨Bs, 0, none⟩) (World.block_lt_of_cell? _ _ hBs)).trans hBs) (hS.below hW) hlow h0

/-- what the log is, when some have come -/
def logG {p : Nat × TxG → Prop} (ref : List UInt8) (pre : List { y // p y }) : List Txn := (pre.map (fun x => x.1.2.txn)).filter (RefsLaw.has ref)
/-- between two rounds: the box 'out' holds a row of one's own; each transaction's changes lie in new memory -/
def LogI {p : Nat × TxG → Prop} (n₀ B : Nat) (ref : List UInt8) (pre : List { y // p y }) (W : World) : Prop :=
  ∃ (A : Option Addr) (n c : Nat) (gs : List TxG), Boxed W B 61 (.slice A n c) ∧ W.ownsRow n₀ 37 4 (.slice A n c) n (txs gs) ∧ gs.map TxG.txn = logG ref pre ∧ (∀ x ∈ gs, SlT (fun k => n₀ ≤ k) 58 W 5 x.A x.n (chs x.chs)) ∧ n ≤ pre.length
theorem logI_own {p : Nat × TxG → Prop} (n₀ B : Nat) (ref : List UInt8) : Own (LogI (p := p) n₀ B ref) := by
  rintro pre W W' row ⟨A, n, c, gs, h1, h2, h3, h4, h5⟩ hg hr
  refine ⟨A, n, c, gs, h1.kept hg (fun e' => ?_), h2.kept hg ?_, h3, fun x hx => (h4 x hx).keep (keepT_own hg hr), h5⟩
  · obtain ⟨o, ho, hc⟩ := hr B e'.symm
    rw [show W.heap[B]? = _ from h1] at ho
    cases ho
    cases hc
  · rcases h2.2 with ⟨hv, _⟩ | ⟨g, cap, cur, hv, _, hgb, _⟩
    · rw [hv]; exact .inl rfl
    · rw [hv]
      refine .inr fun e' => ?_
      obtain ⟨o, ho, hc⟩ := hr g e'.symm
      rw [hgb] at ho
      cases ho
      cases hc

/-- what is known of what comes -/
def LogP (w : World) (y : Nat × TxG) : Prop := Sl w 5 y.2.A y.2.n (chs y.2.chs) ∧ y.2.n ≤ 4096
/-- the round's end: one more is in the log -/
theorem log_round {n₀ B Bs : Nat} {p : Nat × TxG → Prop} {ref : List UInt8} {pre : List { y // p y }} {x : { y // p y }} {w W W6 w6 : World} {Ao A3 A5 : Option Addr} {no co c3 c5 : Nat} {gs : List TxG} {vs : Value} (hn : n₀ = w.heap.size) (hBn : n₀ ≤ B) (hne : B ≠ Bs) (hNe : n₀ ≠ B)
    (O1 : Boxed W B 61 (.slice Ao no co)) (O3 : gs.map TxG.txn = logG ref pre) (O4 : ∀ y ∈ gs, SlT (fun k => n₀ ≤ k) 58 W 5 y.A y.n (chs y.chs)) (o5 : no ≤ pre.length)
    (hbr : Boxed W n₀ 9 (S ref)) (hbs : Boxed W Bs 61 vs) (hbw : Below n₀ w W) (b26 : Below W.heap.size W W6)
    (hrow6 : W6.ownsRow n₀ 37 4 (.slice Ao no co) no (txs gs)) (hO3 : w6.ownsRow n₀ 37 4 (.slice A3 (no + 1) c3) (no + 1) (txs gs ++ txs [⟨x.1.2.who, x.1.2.text, x.1.2.stamp, A5, x.1.2.n, c5, x.1.2.chs⟩])) (hg : W6.grownBy w6 (Value.slice Ao no co).ownBlock)
    (hnew : SlT (fun k => W.heap.size ≤ k) 58 W6 5 A5 x.1.2.n (chs x.1.2.chs)) (hh : RefsLaw.has ref x.1.2.txn = true) (D : Nat) :
    KeepsFrom D W (w6.setCell ⟨B, 0, none⟩ (.slice A3 (no + 1) c3)) ∧ KpB n₀ Bs W (w6.setCell ⟨B, 0, none⟩ (.slice A3 (no + 1) c3)) ∧
      ((LogI n₀ B ref (pre ++ [x]) (w6.setCell ⟨B, 0, none⟩ (.slice A3 (no + 1) c3)) ∧ Boxed (w6.setCell ⟨B, 0, none⟩ (.slice A3 (no + 1) c3)) n₀ 9 (S ref) ∧ Boxed (w6.setCell ⟨B, 0, none⟩ (.slice A3 (no + 1) c3)) Bs 61 vs) ∧ Below n₀ w (w6.setCell ⟨B, 0, none⟩ (.slice A3 (no + 1) c3))) := by
  have hW : n₀ ≤ W.heap.size := by rw [hn] at hbw ⊢; exact hbw.size
  have o6 : Boxed W6 B 61 (.slice Ao no co) := (b26.block _ O1.lt).trans O1
  have r6 : Boxed W6 n₀ 9 (S ref) := (b26.block _ hbr.lt).trans hbr
  have s6 : Boxed W6 Bs 61 vs := (b26.block _ hbs.lt).trans hbs
  have o7 := o6.kept hg (o6.not_row (by decide) hrow6)
  have r7 := r6.kept hg (r6.not_row (by decide) hrow6)
  have s7 := s6.kept hg (s6.not_row (by decide) hrow6)
  have s8 : Boxed (w6.setCell ⟨B, 0, none⟩ (.slice A3 (no + 1) c3)) Bs 61 vs := s7.other (fun e => hne e.symm) _
  have bl : Below n₀ W (w6.setCell ⟨B, 0, none⟩ (.slice A3 (no + 1) c3)) := ((b26.mono hW).grown hg (Nat.le_trans hW b26.size) (fun k hk => (hrow6.lt k hk).1)).setCell (p := ⟨B, 0, none⟩) hBn _
  have kk : KeepT 58 W6 (w6.setCell ⟨B, 0, none⟩ (.slice A3 (no + 1) c3)) := ((KeepT.refl _ W6).grown hg (fun k hk => own_type hrow6 (by decide) k hk)).setCell (g := B) (t := 61) (cs := #[.slice Ao no co]) o7 (by decide) rfl _
  refine ⟨(keepsFrom_below b26).trans (((KeepsOthers.of_grownBy hg (fun j o hj ho => ?_)).from D).trans ((KeepsOthers.setCell w6 _ _).from D)), ⟨bl, fun v hv => ?_⟩, ⟨⟨A3, no + 1, c3, gs ++ [⟨x.1.2.who, x.1.2.text, x.1.2.stamp, A5, x.1.2.n, c5, x.1.2.chs⟩], o7.set _, by rw [txs_append]; exact own_far hO3 (o7.not_row (by decide) hO3) _, ?_, fun y hy => ?_, by simp; omega⟩, r7.other hNe _, s8⟩, hbw.trans bl⟩
  · rcases hrow6.2 with ⟨hv, _⟩ | ⟨g, cap, cur, hv, _, hgb, _⟩
    · rw [hv] at hj; simp [Value.ownBlock] at hj
    · rw [hv] at hj
      have : g = j := by simpa [Value.ownBlock] using hj
      subst this
      rw [hgb] at ho
      cases ho
      rfl
  · have e : (w6.setCell ⟨B, 0, none⟩ (.slice A3 (no + 1) c3)).heap[Bs]? = W.heap[Bs]? := (show _ = _ from s8).trans (show _ = _ from hbs).symm
    exact (World.cell?_of_block e).trans hv
  · rw [List.map_append, O3, logG, logG, List.map_append, List.filter_append]
    congr 1
    have hh' : RefsLaw.has ref ⟨x.1.2.who, x.1.2.text, x.1.2.stamp, x.1.2.chs⟩ = true := hh
    simp [List.filter, hh', TxG.txn]
  · rcases List.mem_append.1 hy with hy | hy
    · exact ((O4 y hy).step b26).keep kk
    · rw [List.mem_singleton] at hy
      subst hy
      exact (hnew.keep kk).weak (fun k _ h => Nat.le_trans hW h)


set_option maxRecDepth 100000 in
set_option maxHeartbeats 4000000 in
theorem log_any (w : World) (p : Nat) (H : Nat → Prop) (bk : Book) (z : Nat) (ref : List UInt8) (hB : BookAt w p H bk z) (hz : z ≤ 1000000) :
    Calls Tryz.prog 20 #[.pointer (some ⟨p, 0, none⟩), S ref] w fun e w' => ∃ (A : Option Addr) (n c : Nat) (gs : List TxG), e = .returned (.slice A n c) ∧ Sl w' 4 A n (txs gs) ∧ gs.map TxG.txn = RefsLaw.log bk ref ∧ (∀ x ∈ gs, Sl w' 5 x.A x.n (chs x.chs)) ∧ Below w.heap.size w w' := by
  obtain ⟨m, Ab, nb, cb, xs, cnt, hI⟩ := hB
  have HI := Lib.hid hI
  have hnb : nb ≤ 1000000 := Nat.le_trans hI.cap.2 hz
  have hq : ∀ y ∈ ys xs, LogP w y := by
    intro y hy
    have hm : y.2 ∈ xs := by
      have := List.mem_map_of_mem (f := (·.2)) hy
      rw [ys_snd] at this
      exact List.mem_reverse.1 this
    have hs := (hI.chg y.2 hm).sl
    refine ⟨hs, ?_⟩
    have ht := hI.inv.txn y.2.txn (hI.txns ▸ List.mem_map_of_mem hm)
    have h1 := rightT_len ht
    have h2 := chs_count hs
    have h3 : y.2.chs.length ≤ 4096 := h1
    omega
  clear hI
  have C1 := Lib.hid (all_any _ p H bk z m Ab nb cb xs cnt (HI.out.step (balloc (balloc (Below.refl _ w) (.cells #[S ref] 9)) (.cells #[.slice none 0 0] 61))))
  refine (callsIn_wide (n := 6)).1 ?_
  refine callsIn_of_wp_marks Tryz.func20 rfl trivial ?_ rfl
  simp only [Tryz.ntmps20, List.size_toArray, List.length_cons, List.length_nil, Nat.reduceAdd, Nat.reduceSub, Array.replicate_succ, Array.replicate_zero, List.push_toArray, List.append_toArray, List.nil_append, List.cons_append]
  gi_wp2_with (first
    | (refine ⟨trivial, ?_⟩; gi_at_call 23; refine (callsIn_wide.2 C1.out).mono ?_; rintro e w' ⟨rfl, rfl⟩)
    | (refine ⟨trivial, ?_⟩; gi_at_call 41; refine (callsIn_wide.2 (backward_any Ab nb cb _)).mono ?_; rintro e w' ⟨rfl, rfl⟩))
  have bO := (Boxed.new (w.alloc (.cells #[S ref] 9)) 61 (.slice none 0 0)).alloc (.cells #[.slice Ab nb cb] 61)
  have bS := Boxed.new ((w.alloc (.cells #[S ref] 9)).alloc (.cells #[.slice none 0 0] 61)) 61 (.slice Ab nb cb)
  have bR := ((Boxed.new w 9 (S ref)).alloc (.cells #[.slice none 0 0] 61)).alloc (.cells #[.slice Ab nb cb] 61)
  have hB0 : Below w.heap.size w (((w.alloc (.cells #[S ref] 9)).alloc (.cells #[.slice none 0 0] 61)).alloc (.cells #[.slice Ab nb cb] 61)) := balloc (balloc (balloc (Below.refl _ w) _) _) _
  rw [World.size_alloc] at bO
  rw [World.size_alloc, World.size_alloc] at bS
  obtain ⟨i0, hi0, hi1, hi2, hi3⟩ := info_parts Tryz.infoTxn
  refine wpIn_rangeFunc_ownH rfl (by omega) (gf := 65) (lb := #[.pointer (some ⟨w.heap.size + 1 + 1, 0, none⟩)]) rfl trivial (enters_of Tryz.func65 (by kernel_rfl) rfl)
    (back_stops 5 (by omega) (w.heap.size + 1 + 1) w.heap.size Ab nb cb xs hnb (LogP w) hq _ bS.cell (HI.out.sl.below hB0) (fun b off hn e => HI.out.sl.lt_ b off hn e)) (KpB.t) (KpB.b (by simp; omega)) (Below.refl _ _) (fun _ => rfl)
    (fun pre W => (LogI w.heap.size (w.heap.size + 1) ref pre W ∧ (Boxed W w.heap.size 9 (S ref) ∧ Boxed W (w.heap.size + 1 + 1) 61 (.slice Ab nb cb))) ∧ Below w.heap.size w W)
    (fun _ _ _ => False)
    (OwnFrom.and (OwnFrom.and ((logI_own _ _ _).from _) (OwnFrom.and ((boxed_own _ _ _).from _) ((boxed_own _ _ _).from _))) (ownFrom_below (Nat.le_refl _) (by simp; omega)))
    (fun _ _ _ _ _ hs _ _ => hs)
    ⟨⟨⟨none, 0, 0, [], bO, World.ownsRow_nil _ _ _ _, rfl, by simp, Nat.le_refl _⟩, bR, bS⟩, hB0⟩
    (fun x a' W => ∃ Bx, w.heap.size + 1 + 1 < Bx ∧ Blk W Bx 37 x.1.2.cells.toArray ∧ a' = { tmps := #[.pointer (some ⟨p, 0, none⟩), S ref, undef, .pointer (some ⟨w.heap.size, 0, none⟩), .slice none 0 0, .pointer (some ⟨w.heap.size + 1, 0, none⟩), undef, .pointer (some ⟨Bx, 0, none⟩), .pointer (some ⟨p, 0, none⟩), .slice Ab nb cb, .func (.func 65) #[] #[.pointer (some ⟨w.heap.size + 1 + 1, 0, none⟩)], I (x.1.1 : Int), txV x.1.2.who x.1.2.text x.1.2.stamp x.1.2.A x.1.2.n x.1.2.c, undef, undef, undef, undef, undef, undef, undef, undef, undef, undef], defers := [] })
    ?hax ?assign ?body ?done ?stop
  case hax =>
    intro x a' _ W W' row ⟨Bx, h1, h2, h3⟩ hg hr
    exact ⟨Bx, h1, h2.grown hg (fun e' => by obtain ⟨_, o, ho, hc⟩ := hr Bx e'.symm; unfold Blk at h2; rw [h2] at ho; cases ho; cases hc), h3⟩
  case assign =>
    rintro l pre x W K ⟨⟨hi, hbr, hbs⟩, hbw⟩ hK
    gi_wp2
    refine hK _ _ (keepsFrom_below (balloc (Below.refl _ W) _)) ⟨(Below.refl _ W).alloc hbw.size _, fun v hv => ?_⟩ ⟨⟨(logI_own _ _ _) _ _ _ none hi (World.grownBy_alloc W _ none) (fun _ h => by cases h), hbr.alloc _, hbs.alloc _⟩, hbw.alloc hbw.size _⟩ ⟨W.heap.size, hbs.lt, Blk.new W _ _, rfl⟩
    exact ((balloc (Below.refl _ W) _).cell (p := ⟨w.heap.size + 1 + 1, 0, none⟩) hbs.lt).trans hv
  case body =>
    rintro l pre x a' W hl _ ⟨⟨hi, hbr, hbs⟩, hbw⟩ ⟨Bx, hBx, hX, rfl⟩ hlt
    have hx2 := x.2.2
    have hSl := x.2.1.below hbw
    have C := Lib.hid (containsFunc_any x.1.2.A x.1.2.n x.1.2.c x.1.2.chs ref w.heap.size W hSl hbr.cell (by omega))
    have rx := hX.cell
    simp only [TxG.cells] at rx
    have HX := Lib.hid hX
    have Hbs := Lib.hid hbs
    have Hbr := Lib.hid hbr
    have Hbw := Lib.hid hbw
    have HSl := Lib.hid hSl
    have hbx : w.heap.size + 1 + 1 < W.heap.size := hbs.lt
    obtain ⟨Ao, no, co, gs, o1, o2, o3, o4, o5⟩ := hi
    have O1 := Lib.hid o1
    have O2 := Lib.hid o2
    have O3 := Lib.hid o3
    have O4 := Lib.hid o4
    have ro := o1.cell
    clear hX hbs hSl o1 o2 o3 o4 hbr hbw
    rcases hh : x.1.2.chs.any (fun x => decide (x.ref = ref)) with _ | _
    · rw [hh] at C
      gi_wp2_with (refine ⟨trivial, ?_⟩; gi_at_call 42; refine (CallsIn.inRound l (callsIn_wide.2 C.out)).mono ?_; rintro e w2 ⟨rfl, b2⟩)
      have b2n : Below w.heap.size W w2 := b2.mono Hbw.out.size
      refine ⟨keepsFrom_below b2, ⟨b2n, fun v hv => (b2.cell (p := ⟨w.heap.size + 1 + 1, 0, none⟩) hbx).trans hv⟩, ⟨⟨Ao, no, co, gs, (b2.block _ O1.out.lt).trans O1.out, own_step O2.out b2, ?_, fun y hy => (O4.out y hy).step b2, by simp; omega⟩, (b2.block _ Hbr.out.lt).trans Hbr.out, (b2.block _ Hbs.out.lt).trans Hbs.out⟩, bstep Hbw.out b2⟩
      rw [O3.out, logG, logG, List.map_append, List.filter_append]
      have : RefsLaw.has ref x.1.2.txn = false := hh
      simp [this]
    · rw [hh] at C
      gi_wp2_with (refine ⟨trivial, ?_⟩; gi_at_call 42; refine (CallsIn.inRound l (callsIn_wide.2 C.out)).mono ?_; rintro e w2 ⟨rfl, b2⟩)
      have b2n := Lib.hid (show Below w.heap.size W w2 from b2.mono Hbw.out.size)
      have B2 := Lib.hid b2
      have hO1 : Boxed w2 (w.heap.size + 1) 61 (.slice Ao no co) := (b2.block _ O1.out.lt).trans O1.out
      have hX2 := HX.out.step b2
      have ro2 := hO1.cell
      have rx2 := hX2.cell
      simp only [TxG.cells] at rx2
      have C5 := Lib.hid (copied_any x.1.2 w2.drew (HSl.out.below b2).drew (by omega))
      clear b2
      refine wpIn_region_heads (by kernel_rfl) [[0, 1, 2, 3], [1, 0, 2, 3], [1, 2, 0, 3], [1, 2, 3, 0]] [4, 5] (by kernel_rfl) ?_
      have q1 : no + 1 ≤ maxLen := by simp only [maxLen]; omega
      have q2 : (no + 1) * 64 ≤ 140737488355328 := by omega
      intro L hL K HK
      simp only [List.mem_cons, List.not_mem_nil, or_false] at hL
      rcases hL with rfl | rfl | rfl | rfl
      all_goals
        simp only [pick, List.filterMap_cons, List.filterMap_nil, List.getElem?_toArray, List.getElem?_cons_zero, List.getElem?_cons_succ] at HK ⊢
        gi_wp2_with ((with_reducible refine And.intro ?_ ?_); exact trivial; gi_at_call 24; refine (CallsIn.inRound l (callsIn_wide.2 C5.out)).mono ?_; rintro e w5 ⟨A5, c5, rfl, hS5, b5⟩; have b6 := Lib.hid (below_undrew (bstep b5 (balloc (Below.refl _ w5) (.cells #[S x.1.2.who, S x.1.2.text, I x.1.2.stamp, .slice A5 x.1.2.n c5] 37)))); have b5u := below_undrew b5; have hO5 : Boxed w5 (w.heap.size + 1) 61 (.slice Ao no co) := (b5u.block _ hO1.lt).trans hO1; have ro5 := hO5.cell; have hO6 : Boxed (w5.alloc (.cells #[S x.1.2.who, S x.1.2.text, I x.1.2.stamp, .slice A5 x.1.2.n c5] 37)) (w.heap.size + 1) 61 (.slice Ao no co) := hO5.alloc _; have ro6 := hO6.cell; have hrow6 := own_step (own_step O2.out B2.out) b6.out; have hSx := sl_tx w5 37 ⟨x.1.2.who, x.1.2.text, x.1.2.stamp, A5, x.1.2.n, c5, x.1.2.chs⟩; have hnew := Lib.hid (hS5.step (balloc (Below.refl _ w5) (.cells #[S x.1.2.who, S x.1.2.text, I x.1.2.stamp, .slice A5 x.1.2.n c5] 37))); have zz : w.heap.size ≤ (w5.alloc (.cells #[S x.1.2.who, S x.1.2.text, I x.1.2.stamp, .slice A5 x.1.2.n c5] 37)).heap.size := Nat.le_trans Hbw.out.size (Nat.le_trans B2.out.size b6.out.size); clear b5 b5u hS5)
        refine HK.out _ _ ?_
        refine wpListIn_append_at _ rfl (.tmp 17) (.tmp 20) 61 rfl w.heap.size 37 i0 _ 4 64 Tryz.underlying61 hi0 hi1 hi2 hi3 rfl (by decide) Ao no co _ rfl hrow6 zz _ 1 1 (txs [⟨x.1.2.who, x.1.2.text, x.1.2.stamp, A5, x.1.2.n, c5, x.1.2.chs⟩]) rfl hSx (one_txs _) q1 q2 ?_
        intro A3 c3 w6 hO3 hg3
        have hO7 : Boxed w6 (w.heap.size + 1) 61 (.slice Ao no co) := hO6.kept hg3 (hO6.not_row (by decide) hrow6)
        have ro7 := hO7.cell
        have fo7 := hO7.frozen
        gi_wp2
        exact log_round (vs := .slice Ab nb cb) rfl (by omega) (by omega) (by omega) O1.out O3.out O4.out o5 Hbr.out Hbs.out Hbw.out (bstep B2.out b6.out) hrow6 hO3 hg3 (hnew.out.weak (fun k _ h => Nat.le_trans B2.out.size h.1)) hh _
  case done =>
    rintro D zs W hD rfl ⟨⟨⟨A, n, c, gs, o1, o2, o3, o4, o5⟩, _⟩, hbw⟩ hK
    have hc := o1.cell
    gi_wp2
    refine ⟨by simp, .inl ⟨_, _, rfl, run_takeDeferred hK, ?_⟩⟩
    refine ⟨_, results_tmp rfl _ _ _, A, n, c, gs, rfl, Sl.of_own (ownsRow_putObj o2 _ hK rfl), ?_, fun y hy => ((o4 y hy).keep (keepT_own (grownBy_putObj' W D (.deferred none)) (fun r e => by cases e; exact ⟨_, hK, rfl⟩))).sl, hbw.trans (belowK_b (w := w) (Nat.le_refl _) W D _ _ (by simp at hD; omega) hK rfl rfl)⟩
    rw [o3, logG, RefsLaw.log, ← HI.out.txns, ← List.map_reverse, ← ys_snd, ← ysP_fst (h := hq), List.map_map, List.map_map]
    rfl
  case stop =>
    rintro D c pre W _ _ h _
    exact h.elim
end Go.Proofs.YtegehaokfcamfaaGreatDoor
