/-
  Parts of the proof: DeA
-/
import Derived.Test.YtmmlhdiejkknnaaGreatDoorG06
set_option maxRecDepth 100000
set_option maxHeartbeats 0
namespace Go.Proofs.YtmmlhdiejkknnaaGreatDoor
open Go.Sx Go.RowKit
noncomputable section
open Classical
def gj:List Nat:= [0,23,17,11,32,260,0,128,256,64]
def fY(A:aa):Prop:=A.rd 0 0 10=some (gj.map fun n=> .int .i64 (n:Nat))
theorem fY.sub{A B:aa}(h:fY B)(hs:B.Sub A):fY A:=bI hs h
theorem fY.at_{A:aa}(h:fY A)(k:Nat)(hk:k<10):A.rd 0 (0+k*1) 1=some [.int .i64 ((gj.getD k 0:Nat):Int)]:=by
 have:=ir (i:=k) (m:=1) h (by omega);rw [Nat.mul_one,this]
 match k,hk with
 |0,_|1,_|2,_|3,_|4,_|5,_|6,_|7,_|8,_|9,_=>rfl
def jz(k:Int)(i:Nat):Prop:=gj.getD k.toNat 0/2^i%2=1
def bZ(h:c7)(np:Nat):Prop:=
 (1≤h.kind∧h.kind≤9)∧(jz h.kind 0∨h.path.data.toList= [])∧(jz h.kind 1∨h.data.length=0)∧(jz h.kind 2∨h.owner=0)∧(jz h.kind 3∨h.ver=0)∧(jz h.kind 4∨h.cver=0)∧
 (jz h.kind 5∨h.tmo=0)∧(jz h.kind 6∨h.err=0)∧(jz h.kind 8∨np=0)∧(jz h.kind 7∨(h.cfg=0∧h.mem.length=0))∧
 (jz h.kind 0→bR h.path.data.toList=true)∧h.data.length≤1000∧0≤h.owner∧0≤h.ver∧0≤h.cver∧
 (h.kind=1∨h.kind=2→h.path.data.toList≠ [47])∧(h.kind=4→1≤h.tmo∧h.tmo≤1000)∧(h.kind=5→1≤h.owner)∧(h.kind=9→1≤h.err)
def dh:aY:=⟨aU,fun d vs A=>∃cs,vs= [dy cs]∧cQ A d cs∧fY A,fun d _ A v A'=>A'=A∧v= .bool (decide (bZ d.h d.parts.length))⟩
end
end Go.Proofs.YtmmlhdiejkknnaaGreatDoor
