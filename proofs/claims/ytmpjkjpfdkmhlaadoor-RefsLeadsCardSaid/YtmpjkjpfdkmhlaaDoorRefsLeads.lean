/-
  dolmenlaw11.RefsLeads returns true, and nothing that lay before has turned. Conditions: the script reads as a list of operations; the ref is a text.
-/
import Derived.Test.YtmpjkjpfdkmhlaaDoorRefsFollow
namespace Go.Proofs.YtmpjkjpfdkmhlaaDoor
open Go.RowKit
open RefsLaw (Val Chg Txn rightT Book named scan leads)

/-- a row of three cells or more is not in a block of two -/
theorem sl_big {w : World} {sz n g : Nat} {A : Option Addr} {xs : List Value} {t : TypeId} {cs : Array Value} (h : Sl w sz A n xs) (hsz : 3 ≤ sz) (hg : Blk w g t cs) (hc : cs.size ≤ 2) : SlF (fun k => k = g) w sz A n xs := by
  refine ⟨h, fun b off hn e hb => ?_⟩
  obtain ⟨b', off', e', _, hcell⟩ := h.2 hn
  rw [e] at e'
  cases e'
  subst hb
  have h2 : 2 < n * sz := Nat.lt_of_lt_of_le (show 2 < sz by omega) (Nat.le_mul_of_pos_left _ hn)
  have h3 := (hcell 2 h2).symm.trans (hg.cell (off + 2))
  have h4 := h.1
  rw [List.getElem?_eq_getElem (by omega), Array.getElem?_eq_none (by omega)] at h3
  cases h3
theorem log_full (w : World) (p : Nat) (H : Nat → Prop) (bk : Book) (z : Nat) (ref : List UInt8) (hB : BookAt w p H bk z) (hz : z ≤ 1000000) :
    Calls Tryd.prog 8 #[.pointer (some ⟨p, 0, none⟩), S ref] w fun e w' => ∃ (A : Option Addr) (n c : Nat) (gs : List TxG), e = .returned (.slice A n c) ∧ LogR w' A n gs ∧ n ≤ 1000000 ∧ gs.map TxG.txn = RefsLaw.log bk ref ∧ Below w.heap.size w w' := by
  obtain ⟨m, A, n, c, xs, cnt, hI⟩ := hB
  have hl := log_small hI.inv ref
  have hn := hI.len
  have hc := hI.cap
  refine (log_any w p H bk z ref ⟨m, A, n, c, xs, cnt, hI⟩ hz).mono ?_
  rintro e w' ⟨A', n', c', gs, rfl, hS, hg, hx, hb⟩
  have h1 := txs_count hS
  have h2 := congrArg List.length hg
  rw [List.length_map] at h2
  refine ⟨A', n', c', gs, rfl, ⟨hS, by omega, fun x hx' => ⟨hx x hx', ?_⟩⟩, by omega, hg, hb⟩
  have h3 := chs_count (hx x hx')
  have h4 := hl.2 x.txn (hg ▸ List.mem_map.2 ⟨x, hx', rfl⟩)
  have h5 : x.txn.chs.length = x.n := h3
  omega
/-- one transaction of the log -/
theorem leads_step {ref : List UInt8} {v : Val} {gs : List TxG} {k : Nat} {x : TxG} (hx : gs[k]? = some x) (h : leads ref v ((gs.drop k).map TxG.txn) = true) : ∃ v', scan ref v false x.chs = some (v', true) ∧ leads ref v' ((gs.drop (k + 1)).map TxG.txn) = true := by
  obtain ⟨hk, rfl⟩ := List.getElem?_eq_some_iff.1 hx
  rw [List.drop_eq_getElem_cons hk, List.map_cons, leads] at h
  split at h
  · rename_i v' hs
    exact ⟨v', hs, h⟩
  · cases h
/-- one change -/
theorem scan_step {ref : List UInt8} {v v' : Val} {b : Bool} {l : List Chg} {k : Nat} {c : Chg} (hx : l[k]? = some c) (h : scan ref v b (l.drop k) = some (v', true)) : (c.ref ≠ ref ∧ scan ref v b (l.drop (k + 1)) = some (v', true)) ∨ (c.ref = ref ∧ c.new = v ∧ b = false ∧ scan ref c.old true (l.drop (k + 1)) = some (v', true)) := by
  obtain ⟨hk, rfl⟩ := List.getElem?_eq_some_iff.1 hx
  rw [List.drop_eq_getElem_cons hk, scan] at h
  split at h
  · rename_i he
    split at h
    · cases h
    · rename_i hn
      refine .inr ⟨he, ?_, ?_, h⟩
      · exact Classical.byContradiction fun e => hn (.inl e)
      · exact Classical.byContradiction fun e => hn (.inr (by simpa using e))
  · rename_i he
    exact .inl ⟨he, h⟩

set_option maxHeartbeats 4000000 in
set_option maxRecDepth 100000 in
theorem refsLeads_law (A : Option Addr) (n c : Nat) (l : List OpG) (ref : List UInt8) (w : World) (hA : Sl w 8 A n (opsC l)) (hO : ∀ o ∈ l, o.ok w) (hr : ref.length ≤ maxLen) (hM : MaxL w) :
    Calls Tryd.prog 3 #[.slice A n c, S ref] w fun e w' => e = .returned (.bool true) ∧ Below w.heap.size w w' := by
  have HA := Lib.hid hA
  have HO := Lib.hid hO
  have HM := Lib.hid hM
  have kN := neq_val
  have kG := guard_val
  clear hA hO hM
  go_enter Tryd.func3, Tryd.ntmps3
  go_wp2_with fail
  refine (awake11_any w HM.out).mono ?_
  rintro e w1 ⟨rfl, b1⟩
  go_wp2_with fail
  refine (made_any w1 A n c l (HA.out.below b1) (fun o ho => OpG.ok_step (HO.out o ho) b1) (HM.out.step b1)).mono ?_
  rintro e w2 ⟨p, q, bk, H, rfl, hB, b2⟩
  have q2 := Lib.hid (bstep b1 b2)
  have HM2 := Lib.hid (HM.out.step q2.out)
  have hlead := RefsLaw.leads_law hB.inv ref
  have C1 := get_any w2 p H bk 40 ref hB hr HM2.out
  have C2 := Lib.hid (fun W (h : Below w2.heap.size w2 W) => log_full W p H bk 40 ref (hB.step h) (by omega))
  rcases hget : RefsLaw.get bk ref with ⟨⟨vid, vname⟩, ge⟩
  rw [hget] at hlead C1
  have Hlead := Lib.hid hlead
  clear hB b1 b2 hget HA HO HM hr hlead
  go_wp2_with fail
  refine C1.mono ?_
  rintro e w3 ⟨rfl, b3⟩
  have V3 := Lib.hid (Blk.new w3 29 #[S vid, S vname])
  have B3 := Lib.hid (balloc b3 (.cells #[S vid, S vname] 29))
  have h23 := b3.size
  clear b3 C1
  go_wp2_with fail
  refine (C2.out _ B3.out).mono ?_
  rintro e w7 ⟨A7, n7, c7, gs, rfl, hL, hn7, hg7, b7⟩
  have V7 := V3.out.step b7
  have q7 := Lib.hid (bstep q2.out (bstep B3.out b7))
  have h7w : Hid (w.heap.size ≤ w3.heap.size) := Lib.hid (Nat.le_trans q2.out.size h23)
  obtain ⟨g8, hg8⟩ : ∃ g8, g8 = w3.heap.size := ⟨_, rfl⟩
  rw [← hg8] at V7 h7w
  have HS := Lib.hid (sl_big hL.1 (by omega) V7 (by simp))
  have HX : Hid (∀ x ∈ gs, SlF (fun k => k = g8) w7 5 x.A x.n (chs x.chs) ∧ x.n ≤ 4096) := Lib.hid (fun x hx => ⟨sl_big (hL.2.2 x hx).1 (by omega) V7 (by simp), (hL.2.2 x hx).2⟩)
  have HV7 := Lib.hid V7
  have hlen := txs_count hL.1
  rw [← hg7] at Hlead
  simp only [← hg8]
  clear V7 hL V3 B3 b7 C2 hg7 h23 hg8 HM2
  go_wp2
  go_loopw [11] (fun i wr => ∃ (k : Nat) (v : Val), i = .int .i64 k ∧ Hid (k ≤ n7) ∧ Hid (leads ref v ((gs.drop k).map TxG.txn) = true) ∧ Hid (Blk wr g8 29 #[S v.id, S v.name]) ∧ Hid (Fr (fun k => k = g8) w7 wr)) (fun i _ => n7 - (intOf i).toNat)
  case atStart => exact ⟨0, ⟨vid, vname⟩, rfl, Lib.hid (by omega), Hlead, HV7, Lib.hid (Fr.refl _ _)⟩
  case round =>
    obtain ⟨k, v, rfl, hk, hlv, hV, hF⟩ := hrel
    by_cases hlt : k < n7
    · obtain ⟨b, off, x, rfl, hb, hx, _, _, _, y3⟩ := HS.out.1.txn hlt
      have hbne := HS.out.2 b off (by omega) rfl
      have Y3 := Lib.hid y3
      obtain ⟨v', hscan, hlv'⟩ := leads_step hx hlv.out
      have hxc := Lib.hid (HX.out x (List.mem_of_getElem? hx))
      have hxn := hxc.out.2
      clear y3
      go_wp2
      go_loopw [12, 13] (fun mt j wj => ∃ (i : Nat) (u : Val) (m : Bool), j = .int .i64 i ∧ mt = .bool m ∧ Hid (i ≤ x.n) ∧ Hid (scan ref u m (x.chs.drop i) = some (v', true)) ∧ Hid (Blk wj g8 29 #[S u.id, S u.name]) ∧ Hid (Fr (fun k => k = g8) w7 wj)) (fun _ j _ => x.n - (intOf j).toNat)
      case atStart => exact ⟨0, v, false, rfl, rfl, Lib.hid (by omega), Lib.hid hscan, hV, hF⟩
      case round =>
        obtain ⟨i, u, m, rfl, rfl, hi, hs, hVj, hFj⟩ := hrel
        have x3 := (hFj.out.cell (p := ⟨b, off + k * 4 + 3, none⟩) hb hbne).trans Y3.out
        by_cases hix : i < x.n
        · obtain ⟨b', off', cc, e1, _, hcc, a0, a1, a2, a3, a4⟩ := (hxc.out.1.fr hFj.out).1.chg hix
          rw [e1] at x3
          have k1 := (Blk.new wr 39 #[S cc.ref, S cc.old.id, S cc.old.name, S cc.new.id, S cc.new.name]).cell
          have HV1 := Lib.hid (hVj.out.alloc (.cells #[S cc.ref, S cc.old.id, S cc.old.name, S cc.new.id, S cc.new.name] 39))
          have k2 := HV1.out.cell
          have f2 := HV1.out.frozen
          have HF1 := Lib.hid (hFj.out.alloc (.cells #[S cc.ref, S cc.old.id, S cc.old.name, S cc.new.id, S cc.new.name] 39))
          rcases scan_step hcc hs.out with ⟨hne, hs'⟩ | ⟨he, hnew, rfl, hs'⟩
          · have hd : (cc.ref == ref) = false := by simpa using hne
            have Hs' := Lib.hid hs'
            clear hne hs' hcc hs e1
            go_wp2
            go_roundw
            case rel => exact ⟨i + 1, u, m, by go_num, rfl, Lib.hid hix, Hs', HV1, HF1⟩
            case measure => simp [intOf]; omega
          · have hd : (cc.ref == ref) = true := by simpa using he
            have hq : eqV cc.new.id cc.new.name u.id u.name = true := eqV_iff.2 hnew
            have Hs' := Lib.hid hs'
            clear he hs' hcc hs e1 hnew
            go_wp2
            go_roundw
            case rel => exact ⟨i + 1, cc.old, true, by go_num, rfl, Lib.hid hix, Hs', Lib.hid ((HV1.out.set_ 0 _).set_ 1 _), Lib.hid ((HF1.out.setCell (p := ⟨g8, 0, none⟩) rfl _).setCell (p := ⟨g8, 1, none⟩) rfl _)⟩
            case measure => simp [intOf]; omega
        · obtain rfl : i = x.n := by have := hi.out; omega
          have hl5 : x.chs.length = x.n := chs_count hxc.out.1.1
          have he := hs.out
          rw [List.drop_eq_nil_of_le (by omega), scan] at he
          simp only [Option.some.injEq, Prod.mk.injEq] at he
          obtain ⟨rfl, rfl⟩ := he
          go_wp2
          go_roundw
          case rel => exact ⟨k + 1, u, by go_num, Lib.hid hlt, Lib.hid hlv', hVj, hFj⟩
          case measure => simp [intOf]; omega
    · obtain rfl : k = n7 := by have := hk.out; omega
      go_wp2
      go_ret
      exact ⟨rfl, q7.out.trans (hF.out.below q7.out.size (fun k e => e ▸ h7w.out))⟩
end Go.Proofs.YtmpjkjpfdkmhlaaDoor
