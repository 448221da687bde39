/-
  Texts merged: WorkInWay, WorkSteps1. What each law says and asks stands at its head.
-/
import Derived.Test.YtphnfcgdpdimbaaGreatDoorRKitD
import Derived.Test.YtphnfcgdpdimbaaGreatDoorRKitX
import Derived.Shelf.Abstract
import Derived.Test.YtphnfcgdpdimbaaGreatDoorRKitW
namespace Go.Proofs.YtphnfcgdpdimbaaGreatDoor
open Go.RowKit Go.Shelf
open PathLaw (under)
def inWay1 (p : List UInt8) (c : Chg3) : Bool := decide (c.1 = p) || (under c.1 p || under p c.1)
def inWayB (l : List Chg3) (p : List UInt8) : Bool := l.any (inWay1 p)
end Go.Proofs.YtphnfcgdpdimbaaGreatDoor
namespace Go.Proofs.YtphnfcgdpdimbaaGreatDoor
open Go.RowKit
open DiffLaw (fid)
def newB (x : Chg3) : Bool := !decide (x.2.2 = [])
def goneP (l : List Chg3) (t : List Fil) (p : List UInt8) : Bool := inWayB l p && decide (fid t p = [])
end Go.Proofs.YtphnfcgdpdimbaaGreatDoor
