/-
  Texts merged: DecBlob, DecBlob2. What each law says and asks stands at its head.
-/
import Derived.Test.YtcednfmkiaelnaaGreatDoorTKitX
import Derived.Test.YtcednfmkiaelnaaGreatDoorTKitM
import Derived.Test.YtcednfmkiaelnaaGreatDoorTKitE
import Derived.Test.YtcednfmkiaelnaaGreatDoorTKitF
import Derived.Test.YtcednfmkiaelnaaGreatDoorTKitOb
import Derived.Test.YtcednfmkiaelnaaGreatDoorTKitW
import Derived.Test.YtcednfmkiaelnaaGreatDoorTCheckG
namespace Go.Proofs.YtcednfmkiaelnaaGreatDoor
open Go.RowKit
abbrev RdrB (w : World) (r : Nat) (A : Option Addr) (n c : Nat) : Prop := Blk w r 228 #[.slice A n c, I 0]
set_option maxHeartbeats 4000000 in
set_option maxRecDepth 100000 in
/-- the next bytes -/
theorem obytes_any (r n c k : Nat) (A : Option Addr) (p : List UInt8) (w : World) (hr : RdrB w r A n c) (hA : Sl w 1 A n (u8s p)) (hk : k ≤ n) (hc : n ≤ c) (_hn : n ≤ 1000000000) :
  Calls Tryz.prog 201 #[.pointer (some ⟨r, 0, none⟩), I (k : Int)] w fun e w' => e = .returned (S (p.take k)) ∧ RdrB w' r (cutA A c k 1) (n - k) (c - k) ∧ Fr (fun j => j = r) w w' := by
 have hrc := hr.cell
 have fz := hr.frozen
 have HR := Lib.hid hr
 have d1 : decide ((n : Int) < (k : Int)) = false := decide_eq_false (by omega)
 have d1' : decide (n < k) = false := decide_eq_false (by omega)
 have kc : ∀ V : World, (Instr.slice 38 (.slice A n c) none (some (.int .i64 (k : Int))) none).run Tryz.prog V = .ok (.slice (cutA A c 0 1) k c) V := fun V => run_cut_h (P := Tryz.prog) V Tryz.underlying38 Tryz.sizeU8 A n c .i64 k (by omega)
 have kd : ∀ V : World, (Instr.slice 38 (.slice A n c) (some (.int .i64 (k : Int))) none none).run Tryz.prog V = .ok (.slice (cutA A c k 1) (n - k) (c - k)) V := fun V => run_cut_l (P := Tryz.prog) V Tryz.underlying38 Tryz.sizeU8 A n c .i64 k hk
 have hH := hA.head_ (k := k) (c := c) hk hc
 have hcv := fun q => run_conv_str (P := Tryz.prog) (w.drewN q) 38 9 5 _ k c _ Tryz.underlying38 Tryz.underlying5 Tryz.underlying9 (hH.drewN q)
 have hcv0 := run_conv_str (P := Tryz.prog) w 38 9 5 _ k c _ Tryz.underlying38 Tryz.underlying5 Tryz.underlying9 hH
 clear hH hA hr
 go_enter Tryz.func201, Tryz.ntmps201
 go_wp2
 go_ret
 exact ⟨rfl, HR.out.set_ 0 _, Fr.setCell (E := fun j => j = r) (Fr.refl _ w) (p := ⟨r, 0, none⟩) (show r = r from rfl) _⟩
section
variable {W : World} {r : Nat} {A : Option Addr} {n c : Nat} {v : Value} {p : List UInt8}
end
theorem Tryz.infoRdr : (Tryz.prog.info? 228).map (fun i => (i.zero, i.size, i.bytes)) = some (some (.agg #[.slice none 0 0, I 0]), 2, 32) := by kernel_rfl
abbrev noObj : Array Value := #[I 0, .slice none 0 0, .slice none 0 0, S [], .slice none 0 0, S [], S [], S [], I 0, S []]
theorem res_obj {fn : Func} {p u : Tmp} (h : fn.results = #[.cell p 96, .tmp u]) (tmps : Array Value) (w : World) (g : Nat) (cs : Array Value)
  (hp : tmps.getD p undef = .pointer (some ⟨g, 0, none⟩)) (hg : Blk w g 96 cs) (hi : cs.size = 10) :
  (results fn tmps).run Tryz.prog w = .ok (.tuple #[.agg cs, tmps.getD u undef]) w := by
 have hp' : tmps[p]?.getD undef = .pointer (some ⟨g, 0, none⟩) := by simpa using hp
 have hl := run_loadVar_row (P := Tryz.prog) w g 96 96 cs (0, 0) _ hg Tryz.underlying96 rfl (by rw [hi]; kernel_rfl)
 simp [results, h, hp', asAddr, hl]
theorem obj_set {w W : World} {g : Nat} {t : TypeId} (h : Blk w g t noObj) (v0 v1 v2 v3 v4 v5 v6 v7 v8 v9 : Value) (hW : (((((((((w.setCell ⟨g, 0, none⟩ v0).setCell ⟨g, 1, none⟩ v1).setCell ⟨g, 2, none⟩ v2).setCell ⟨g, 3, none⟩ v3).setCell ⟨g, 4, none⟩ v4).setCell ⟨g, 5, none⟩ v5).setCell ⟨g, 6, none⟩ v6).setCell ⟨g, 7, none⟩ v7).setCell ⟨g, 8, none⟩ v8).setCell ⟨g, 9, none⟩ v9 = W) :
  Blk W g t #[v0, v1, v2, v3, v4, v5, v6, v7, v8, v9] ∧ Fr (fun k => k = g) w W := by
 have st : ∀ {V : World} (i : Nat) (u : Value), Fr (fun k => k = g) w V → Fr (fun k => k = g) w (V.setCell ⟨g, i, none⟩ u) := fun i u hV => Fr.setCell (E := fun k => k = g) hV (p := ⟨g, i, none⟩) (show g = g from rfl) u
 subst hW
 refine ⟨?_, st 9 v9 (st 8 v8 (st 7 v7 (st 6 v6 (st 5 v5 (st 4 v4 (st 3 v3 (st 2 v2 (st 1 v1 (st 0 v0 (Fr.refl _ _))))))))))⟩
 have hb := (((((((((h.set_ 0 v0).set_ 1 v1).set_ 2 v2).set_ 3 v3).set_ 4 v4).set_ 5 v5).set_ 6 v6).set_ 7 v7).set_ 8 v8).set_ 9 v9
 simpa [noObj] using hb
end Go.Proofs.YtcednfmkiaelnaaGreatDoor
