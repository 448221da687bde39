/-
  What dolmenlaw20.WorkStands asks of lists. Plain lemmas.
-/
import Derived.Test.YtphnfcgdpdimbaaGreatDoorStandsLaw
import Derived.Test.YtphnfcgdpdimbaaGreatDoorWorkPut
namespace Go.Proofs.YtphnfcgdpdimbaaGreatDoor
open Go.RowKit
open DiffLaw (fid ofPaths Paths)

theorem sh_ne {p q : List UInt8} (h : workedB p = true) : wname p ≠ shName q := by
  intro e
  have h1 := (worked_ok h).2.2.1
  rw [e] at h1
  unfold Lib.hasSuffix shName at h1
  have h2 : [126].isSuffixOf (q ++ [126]) = true := List.isSuffixOf_iff_suffix.2 ⟨q, rfl⟩
  rw [h2] at h1
  cases h1
/-- just the files put stand on the disk -/
def WInv (L : List DF) (fs : List Fil) : Prop := L.length ≤ fs.length ∧ ∀ f ∈ fs, workedB f.1 = true ∧ wname f.1 ∈ L.map (·.1)
theorem WInv.nil_ : WInv [] [] := ⟨Nat.le_refl _, by simp⟩
theorem mem_dropF {L : List DF} {s t : List UInt8} (h : t ∈ L.map (·.1)) (hne : t ≠ s) : t ∈ (dropF L s).map (·.1) := by
  obtain ⟨x, hx, rfl⟩ := List.mem_map.1 h
  refine List.mem_map.2 ⟨x, List.mem_filter.2 ⟨hx, ?_⟩, rfl⟩
  simp [hne]
theorem WInv.put {L : List DF} {fs : List Fil} (h : WInv L fs) (x : Fil) (hx : workedB x.1 = true) (hd : Hd) (b : List UInt8) : WInv (putF (dropF L (shName (wname x.1))) (wname x.1) hd b) (fs ++ [x]) := by
  constructor
  · unfold putF
    rw [List.length_cons, List.length_append]
    have h1 := List.length_filter_le (fun y : DF => !decide (y.1 = wname x.1)) (dropF L (shName (wname x.1)))
    have h2 := List.length_filter_le (fun y : DF => !decide (y.1 = shName (wname x.1))) L
    have h3 := h.1
    unfold dropF at h1 ⊢
    simp only [List.length_cons, List.length_nil]
    omega
  · intro f hf
    rcases List.mem_append.1 hf with h1 | h1
    · obtain ⟨h2, h3⟩ := h.2 f h1
      refine ⟨h2, ?_⟩
      unfold putF
      by_cases e : wname f.1 = wname x.1
      · rw [e]; exact List.mem_cons_self
      · exact List.mem_cons_of_mem _ (mem_dropF (mem_dropF h3 (sh_ne h2)) e)
    · rw [List.mem_singleton] at h1
      subst h1
      exact ⟨hx, List.mem_cons_self⟩
theorem put_cost_le {L : List DF} {s t : List UInt8} {hd : Hd} {b : List UInt8} {cap : Int} (h : (L.map (·.1)).Nodup) (hc : ((16 + (s.length + 1) + b.length : Nat) : Int) ≤ cap - costs (dropF L t)) : (costs (putF (dropF L t) s hd b) : Int) ≤ cap := by
  unfold putF
  show ((cost1 (s, hd, b) + costs (dropF (dropF L t) s) : Nat) : Int) ≤ cap
  have h1 := costs_drop_le (dropF L t) s (drop_nodup t h)
  unfold cost1
  simp only
  omega
theorem steps_len {ns ps : List (List UInt8)} {a b : List Fil} (h : Paths ps a b) : (stepsOf ns (ofPaths ps a b) b).length ≤ ns.length + (a.length + b.length) := by
  unfold stepsOf
  rw [List.length_append, List.length_map, List.length_map]
  have h1 := List.length_filter_le (goneP (ofPaths ps a b) b) (listOf ns)
  have h2 : (listOf ns).length ≤ ns.length := List.length_filterMap_le _ _
  have h3 := List.length_filter_le newB (ofPaths ps a b)
  have h4 : (ofPaths ps a b).length ≤ ps.length := by unfold ofPaths; first | exact List.length_filterMap_le _ _ | (rw [List.length_map]; exact List.length_filter_le _ _)
  have h5 : ps.Nodup := h.1.imp (fun hlt e => absurd (e ▸ hlt) (List.lt_irrefl _))
  have h6 := h5.length_le_of_subset (l₂ := a.map (·.1) ++ b.map (·.1)) (fun p hp => List.mem_append.2 ((h.2 p).1 hp))
  rw [List.length_append, List.length_map, List.length_map] at h6
  omega
/-- one file of 32 bytes put, of stamp 1: whatever comes -/
def PutOut (W : World) (p q nn : Nat) (cap : Int) (L : List DF) (s bs : List UInt8) (z : Int) (w' : World) : Prop :=
  Fr (fun k => k = p ∨ k = q) W w' ∧ (z = 0 → workedB s = true ∧ ∃ hd n', n' ≤ nn + 100000 ∧ (costs (putF (dropF L (shName (wname s))) (wname s) hd (wbytes 1 bs)) : Int) ≤ cap ∧ DiskAt w' p q n' cap (putF (dropF L (shName (wname s))) (wname s) hd (wbytes 1 bs)))
theorem PutOut.step {W w w' : World} {p q nn : Nat} {cap : Int} {L : List DF} {s bs : List UInt8} {z : Int} (h : PutOut W p q nn cap L s bs z w) (hb : Below w.heap.size w w') : PutOut W p q nn cap L s bs z w' :=
  ⟨h.1.step hb, fun hz => by
    obtain ⟨h1, hd, n', h2, h3, h4⟩ := h.2 hz
    exact ⟨h1, hd, n', h2, h3, h4.step hb⟩⟩
theorem wput_one (w : World) (p q nn : Nat) (cap : Int) (L : List DF) (s : List UInt8) (A : Option Addr) (c : Nat) (bs : List UInt8) (h : DiskAt w p q nn cap L) (hs : s.length ≤ 2147483648) (hM : MaxL w) (hA : Sl w 1 A 32 (u8s bs))
    (hcap : cap ≤ 4000000000000) (hc : (costs L : Int) ≤ cap) (hn : nn + 100000 < maxLen) :
    Calls Tryz.prog 8 #[.pointer (some ⟨p, 0, none⟩), S s, .slice A 32 c, .int .i64 1] w fun e w' => ∃ z : Int, e = .returned (I z) ∧ PutOut w p q nn cap L s bs z w' := by
  rcases hb : putBad s ((1 : Nat) : Int) 32 with _ | _
  · have hk := h.keys
    have hw : workedB s = true := by
      unfold putBad at hb
      simp only [Bool.or_eq_false_iff, Bool.not_eq_false'] at hb
      exact hb.1
    refine (wput_good w p q nn cap L s A 32 c bs 1 h hM hA hb hcap hc hn).mono ?_
    rintro e w' (⟨rfl, _, _, hf⟩ | ⟨rfl, h1, hd, n', h2, h3, hf⟩)
    · exact ⟨4, rfl, hf, fun e => absurd e (by decide)⟩
    · exact ⟨0, rfl, hf, fun _ => ⟨hw, hd, n', h2, put_cost_le hk h1, h3⟩⟩
  · refine (wput_bad w p q nn cap L s A 32 c 1 h hs hM (by decide) hb).mono ?_
    rintro e w' ⟨rfl, hb⟩
    exact ⟨1, rfl, Fr.of_below hb, fun e => absurd e (by decide)⟩
/-- rows and disks beside each other -/
theorem own_fr {w w' : World} {E : Nat → Prop} {base sz n : Nat} {e : TypeId} {v : Value} {xs : List Value} (h : w.ownsRow base e sz v n xs) (hf : Fr E w w') (hE : ∀ k, E k → k < base) : w'.ownsRow base e sz v n xs := by
  refine ⟨h.1, ?_⟩
  rcases h.2 with h2 | ⟨g, cap, cur, hv, hg, hh, r⟩
  · exact .inl h2
  · exact .inr ⟨g, cap, cur, hv, hg, (hf.block g (heap_lt hh) (fun e => by have := hE g e; omega)).trans hh, r⟩
theorem ow_cut {w : World} {base sz n c : Nat} {A : Option Addr} {e : TypeId} {xs : List Value} (h : w.ownsRow base e sz (.slice A n c) n xs) (hb : base ≤ w.heap.size) : ∃ B : World, B.heap.size = base ∧ Ow B w e sz A n c xs := by
  have e1 : ({ w with heap := w.heap.extract 0 base } : World).heap.size = base := by simp; omega
  refine ⟨{ w with heap := w.heap.extract 0 base }, e1, ?_, rfl, rfl, rfl, by rw [e1]; exact hb, fun k hk => ?_⟩
  · rw [e1]; exact h
  · rw [e1] at hk
    show w.heap[k]? = (w.heap.extract 0 base)[k]?
    rw [Array.getElem?_extract]
    simp; omega
theorem disk_append {w w' : World} {base p q nn : Nat} {cap : Int} {L : List DF} {e : TypeId} {sz n : Nat} {v : Value} {xs : List Value} (h : DiskAt w p q nn cap L) (ho : w.ownsRow base e sz v n xs) (he : e ≠ 5) (hp : p < base) (hq : q < base) (hg : w.grownBy w' v.ownBlock) : DiskAt w' p q nn cap L :=
  h.keep (hg.block p h.lt (fun e' => by have := (ho.lt p e'.symm).1; omega)) (hg.block q h.map.lt (fun e' => by have := (ho.lt q e'.symm).1; omega)) ((KeepT.refl _ _).grown hg (own_type ho he))
end Go.Proofs.YtphnfcgdpdimbaaGreatDoor
