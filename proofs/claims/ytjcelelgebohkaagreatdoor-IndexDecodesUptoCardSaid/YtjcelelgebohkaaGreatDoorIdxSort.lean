/-
  slices.SortFunc at entries of the call's own, no key twice. No condition else.
-/
import Derived.Test.YtjcelelgebohkaaGreatDoorIdxCmp
import Derived.Test.YtjcelelgebohkaaGreatDoorSortK
namespace Go.Proofs.YtjcelelgebohkaaGreatDoor
open Go.RowKit Go.Sort Go.Shelf
open IdxLaw (Ent cmpE ltE sortE Uniq)

theorem Tryz.aggEnt (w : World) : (isAgg 36).run Tryz.prog w = .ok true w := by kernel_rfl
theorem Tryz.sizeEnt (w : World) : (Go.sizeOf 36).run Tryz.prog w = .ok 5 w := by kernel_rfl
theorem swoE : SWO (ltOf cmpE) where
  irrefl x := IdxLaw.ltE_irrefl x
  trans x y z h1 h2 := IdxLaw.ltE_trans h1 h2
  ntrans x y z h1 h2 := by
    have := IdxLaw.le_trans (a := z) (b := y) (c := x) (by show (!ltOf cmpE y z) = true; rw [h2]; rfl) (by show (!ltOf cmpE x y) = true; rw [h1]; rfl)
    simpa [ltE, ltOf] using this

theorem sort_any (w0 w : World) (A : Option Addr) (n c : Nat) (l : List Ent) (hO : Ow w0 w 36 5 A n c (ents l)) (hu : Uniq l) (hb : n ≤ 1000000) :
    Calls Tryz.prog 73 #[.slice A n c, .func (.func 47) #[] #[]] w fun e w' => e = .returned (.tuple #[]) ∧ Ow w0 w' 36 5 A n c (ents (sortE l)) := by
  have hn := ents_count hO.sl
  have hcap := hO.cap
  rcases Nat.eq_zero_or_pos n with h0 | h0
  · subst h0
    obtain rfl : l = [] := List.eq_nil_of_length_eq_zero hn
    refine (AnyF.slices_SortFunc_none Tryz.sortEnt A c _ w).mono ?_
    rintro e w' ⟨rfl, rfl⟩
    have e : sortE [] = [] := by simp [sortE]
    exact ⟨rfl, by rw [e]; exact hO⟩
  · obtain ⟨g, rfl, hg0, hg⟩ := hO.form h0
    subst hn
    have hH : HoldsK entC 5 w g 0 l.toArray := by
      unfold HoldsK
      rw [flatK_eq (enc := entC) (k := 5) (fun _ => rfl)]
      rcases hO.1.2 with ⟨hv, _⟩ | ⟨g', cap', cur, hv, hbase, hb, h1, h2, h3, h4⟩
      · cases hv
      · cases hv
        refine holds_own hb ?_
        rw [show (l.toArray.toList.flatMap entC).length = l.length * 5 from ents_len l]
        exact h4
    have hc := AnyQ.slices_SortFunc Tryz.sortEnt 5 Tryz.aggEnt Tryz.sizeEnt entC (fun _ => rfl) (fun x v hv => by simp [entC] at hv; rcases hv with rfl | rfl | rfl | rfl | rfl <;> rfl) cmpE swoE 47 #[] g 0 c l.toArray w
      (enters_of Tryz.func47 (by kernel_rfl) rfl)
      (fun m os dk _ x y => entries1_any x y _) hH hg (by simp; omega)
    refine hc.mono ?_
    rintro e w' ⟨rfl, d', m, os, hp, hs, rfl⟩
    have hd : d'.toList = sortE l := by
      obtain ⟨hsz, _, hperm⟩ := hp
      have e1 : d'.extract 0 l.toArray.size = d' := by rw [← hsz]; exact Array.extract_size
      rw [e1, Array.extract_size] at hperm
      refine IdxLaw.sortE_unique hu (by simpa using hperm) ?_
      rw [List.pairwise_iff_getElem]
      intro i j hi hj hij
      have hi' : i < d'.size := by simpa using hi
      have hj' : j < d'.size := by simpa using hj
      have := hs i j (Nat.zero_le _) hij (by rw [← hsz]; exact hj')
      rw [getElem!_pos d' j hj', getElem!_pos d' i hi'] at this
      show (!ltOf cmpE _ _) = true
      rw [Array.getElem_toList, Array.getElem_toList, this]
      rfl
    have hw : sortWorldK entC 5 w g 0 m d' os = grow (putRow id (Sort.ahead w m) g 0 (ents (sortE l)).toArray) os := by
      unfold sortWorldK putRowK
      rw [flatK_eq (enc := entC) (k := 5) (fun _ => rfl), hd]
      rfl
    rw [hw]
    have hl2 : (ents (sortE l)).length = (ents l).length := by rw [ents_len, ents_len, (IdxLaw.sortE_perm l).length_eq]
    refine ⟨rfl, ?_, hO.2.grown (grown_put _) hO.2.size (fun k e => by cases e; exact hg0)⟩
    exact own_put hO.1 hl2
end Go.Proofs.YtjcelelgebohkaaGreatDoor
