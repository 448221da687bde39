/-
  A region that draws its order, inside a round: one walk for each order that its edges allow. Plain lemmas.
-/
import Derived.Test.YtmpjkjpfdkmhlaaDoorBase
import Derived.OrdersIn
import Derived.TacticsIn
namespace Go.Proofs.YtmpjkjpfdkmhlaaDoor
open Go.RowKit

/-- all orders that the edges allow -/
def orders (md : Region.Mode) (ops : Array Oper) : Nat → Array Bool → List (List Nat)
  | 0, _ => [[]]
  | fuel + 1, listed => if (Region.ready md ops listed).isEmpty = true then [[]] else (Region.ready md ops listed).flatMap fun i => (orders md ops fuel (listed.setIfInBounds i true)).map (i :: ·)
theorem orders_all {md : Region.Mode} {ops : Array Oper} : ∀ (fuel t : Nat) (listed : Array Bool), Region.linearise.go md ops fuel t listed [] ∈ orders md ops fuel listed
  | 0, t, listed => by simp [Region.linearise.go, orders]
  | fuel + 1, t, listed => by
    simp only [Region.linearise.go]
    change (match (Region.ready md ops listed)[t % (Region.ready md ops listed).length]? with
      | some i => Region.linearise.go md ops fuel (t / (Region.ready md ops listed).length) (listed.setIfInBounds i true) [i]
      | none => [].reverse) ∈ _
    unfold orders
    cases hi : (Region.ready md ops listed)[t % (Region.ready md ops listed).length]? with
    | none =>
      have hnil : Region.ready md ops listed = [] := by
        cases hr : Region.ready md ops listed with
        | nil => rfl
        | cons x xs =>
          rw [hr] at hi
          have hlt : t % (x :: xs).length < (x :: xs).length := Nat.mod_lt _ (by simp)
          simp at hi
          simp at hlt
          omega
      rw [hnil]
      simp
    | some i =>
      have hm := List.mem_of_getElem? hi
      rw [if_neg (by intro he; rw [List.isEmpty_iff] at he; rw [he] at hm; cases hm)]
      simp only []
      rw [linearise_go_acc, List.reverse_singleton, List.singleton_append]
      exact List.mem_flatMap.2 ⟨i, hm, List.mem_map.2 ⟨_, orders_all fuel _ _, rfl⟩⟩
def pick (ops : Array Oper) (l : List Nat) : List Oper := l.filterMap (ops[·]?)
theorem wpOpsIn_pick {F : Fence} {n : Nat} {P : Program} {ops : Array Oper} {Q : Exit → Act → World → Prop} : ∀ (l : List Nat), wpOpsIn F n P ops Q l = wpListIn F n P ops Q (pick ops l)
  | [] => by funext a w; simp [wpOpsIn, wpListIn, pick]
  | i :: l => by
    funext a w
    have ih := wpOpsIn_pick (F := F) (n := n) (P := P) (ops := ops) (Q := Q) l
    cases h : ops[i]? with
    | none => simp [wpOpsIn, h, pick, ih]
    | some o => simp [wpOpsIn, h, pick, wpListIn, ih]
theorem wpIn_region_orders {F : Fence} {n : Nat} {P : Program} {id : Nat} {ops : Array Oper} {Q : Exit → Act → World → Prop} {a : Act} {w : World} (hm : P.follows .mixedOrders = true) (L : List (List Nat)) (hL : orders .any ops ops.size (Array.replicate ops.size false) = L)
    (h : ∀ l ∈ L, wpListIn F n P ops Q (pick ops l) a w.drew) : (Code.region id ops true).wpIn F n P Q a w := by
  refine wpIn_region_draw fun t => ?_
  simp only [Region.schedule, hm, Bool.true_or, if_true]
  rw [wpOpsIn_pick]
  exact h _ (hL ▸ orders_all _ _ _)

theorem letsOut_then {K : Act → World → Prop} {Q : Exit → Act → World → Prop} (h : LetsOut (Exit.then K Q)) : LetsOut Q := by
  obtain ⟨a, w, h⟩ := h
  exact ⟨a, w, h⟩
theorem wpIn_op_then {F : Fence} {n : Nat} {P : Program} {o : Oper} {a : Act} {w : World} {N K : Act → World → Prop} {Q : Exit → Act → World → Prop} (h : o.wpIn F n P a w N (Exit.then K Q)) : o.wpIn F n P a w N Q := by
  unfold Oper.wpIn at *
  refine ⟨h.1, ?_⟩
  have hh := h.2
  generalize (o.semAt F.round a.eval).run P w = r at *
  cases r with
  | ok x w' =>
    cases x <;> simp only [Oper.uponIn] at hh ⊢ <;>
      first
        | exact hh
        | exact ⟨hh.1, CallsIn.mono hh.2 (fun e w'' he => by cases e <;> first | exact he | exact letsOut_then he)⟩
        | exact ⟨hh.1, RoundIn.mono hh.2 (fun e w'' he => by cases e <;> first | exact he | exact letsOut_then he)⟩
  | halt x w' => cases x <;> simp only [Oper.uponIn] at hh ⊢ <;> exact hh
theorem wpListIn_then {F : Fence} {n : Nat} {P : Program} {ops : Array Oper} {Q : Exit → Act → World → Prop} {l2 : List Oper} : ∀ {l1 : List Oper} {a : Act} {w : World}, wpListIn F n P ops (Exit.then (fun a w => wpListIn F n P ops Q l2 a w) Q) l1 a w → wpListIn F n P ops Q (l1 ++ l2) a w
  | [], _, _, h => h
  | o :: l1, a, w, h => by
    rw [List.cons_append]
    unfold wpListIn at h ⊢
    split
    · rename_i hw
      rw [if_pos hw] at h
      exact Oper.wpIn_mono (fun a w h => wpListIn_then h) (wpIn_op_then h)
    · rename_i hw
      rw [if_neg hw] at h
      exact ⟨h.1, wpListIn_then h.2⟩
/-- .. where all orders end alike: what stands ahead of that end is walked up to a continuation -/
theorem wpIn_region_heads {F : Fence} {n : Nat} {P : Program} {id : Nat} {ops : Array Oper} {Q : Exit → Act → World → Prop} {a : Act} {w : World} (hm : P.follows .mixedOrders = true) (L : List (List Nat)) (T : List Nat) (hL : orders .any ops ops.size (Array.replicate ops.size false) = L.map (· ++ T))
    (h : ∀ l ∈ L, ∀ K : Act → World → Prop, Hid (∀ a w, wpListIn F n P ops Q (pick ops T) a w → K a w) → wpListIn F n P ops (Exit.then K Q) (pick ops l) a w.drew) : (Code.region id ops true).wpIn F n P Q a w := by
  refine wpIn_region_orders hm _ hL fun l hl => ?_
  obtain ⟨l1, h1, rfl⟩ := List.mem_map.1 hl
  have e : pick ops (l1 ++ T) = pick ops l1 ++ pick ops T := by simp [pick]
  rw [e]
  exact wpListIn_then (h l1 h1 _ (Lib.hid fun _ _ h => h))
end Go.Proofs.YtmpjkjpfdkmhlaaDoor
