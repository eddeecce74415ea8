import Derived.Test.YtiijokopcgnokaaGreatWHeap
import Derived.ProofKit
import Derived.OpenShut
import Derived.SizedLaws
set_option linter.unusedSimpArgs false
namespace Go.Proofs.YtiijokopcgnokaaGreat
open Go.ChangeShapes Go.WideShapes Go.RowKit
section
variable {H : Type} {enc : TypeId × Value → H} {P : Program} {w : World} {base : Nat} {spare : Nat → Bool} {held : Bool}
theorem u8_of {a:Int} (h:(Lit.int .u8 a).wf=true):∃ b:UInt8,a=b.toNat:=by
 have hx:0≤a∧a≤255:=by simpa [Lit.wf,IntKind.min,IntKind.max,IntKind.signed,IntKind.bits] using h
 refine ⟨UInt8.ofNat a.toNat,?_⟩;rw [UInt8.toNat_ofNat'];omega
theorem u64_bounds {a:Int} (h:(Lit.int .u64 a).wf=true):0≤a∧a≤18446744073709551615:=by
 simpa [Lit.wf,IntKind.min,IntKind.max,IntKind.signed,IntKind.bits] using h
def Xae (w:World) (v:Value) (l:List UInt8):Prop :=
 ∃ ao cap,v=.slice ao l.length cap∧(0<l.length→∃ b o,ao=some ⟨b,o,none⟩∧∀ j,j<l.length→w.cell? ⟨b,o+j,none⟩=some (.int .u8 (l.getD j 0).toNat))
theorem Xlg {a:Addr} {v:Value} (h:w.cell? a=some v):a=⟨a.block,a.off,none⟩:=by
 obtain ⟨b,o,s⟩:=a
 cases s with
 | none=>rfl
 | some s=>simp only [World.cell?,Option.isSome_some,if_true] at h;split at h <;> cases h
theorem Xah (b o j:Nat):(⟨b,o,none⟩:Addr).add j=⟨b,o+j,none⟩:=by unfold Addr.add;split <;> simp_all
end
end Go.Proofs.YtiijokopcgnokaaGreat
namespace Go.Proofs.YtiijokopcgnokaaGreat
open Go.ChangeShapes Go.WideShapes Go.RowKit
section
variable {H : Type} {enc : TypeId × Value → H} {P : Program} {w : World} {base : Nat} {spare : Nat → Bool} {held : Bool}
theorem slice_trod {t e:TypeId} {fuel:Nat} {cs:List Value} {x:DataW H × List MemPlace} (ht:P.underlying t=some (.slice e)) (hc:0<P.cellsOf e) (h:DataW.trod enc P w base spare held fuel t cs=some x) :
  ∃ ao len cap,cs=[.slice ao len cap]∧len≤cap∧cap≤maxLen∧(0<len→∃ b o,ao=some ⟨b,o,none⟩)∧∀ i,i<len→∃ b o es n y,ao=some ⟨b,o,none⟩∧es.length=P.cellsOf e∧(∀ j,j<P.cellsOf e→w.cell? ⟨b,o+i*P.cellsOf e+j,none⟩=es[j]?)∧DataW.trod enc P w base spare held n e es=some y:=by
 rcases DataW.trod_slice ht h with ⟨rfl,_⟩ | ⟨a,len,cap,elems,rest,n,_,rfl,_,hb,hlc,hcm,hel,hcells,_⟩
 ·exact ⟨none,0,0,rfl,Zq _,by unfold maxLen;omega,fun h=>by omega,fun i hi=>by omega⟩
 ·have key:∀ i,i<len→∃ es y,w.cells? base (a.add (i*P.cellsOf e)) (P.cellsOf e)=some es∧DataW.trod enc P w base spare held n e es=some y:=by
   intro i hi;have h1:=hcells i hi;rw [Zc (by omega)] at h1;simp only [Option.bind_eq_some_iff] at h1;obtain ⟨es,h2,h3⟩:=h1;exact ⟨es,_,h2,h3⟩
  have hplain:0<len→a=⟨a.block,a.off,none⟩:=by
   intro h0;obtain ⟨es,y,h1,_⟩:=key 0 h0;obtain ⟨_,hl,hcell⟩:=World.cells?_some h1;have h2:=hcell 0 (by omega);rw [Zc (by omega)] at h2;rw [show (a.add (0*P.cellsOf e)).add 0=a by simp [Addr.add]] at h2;exact Xlg h2
  refine ⟨some a,len,cap,rfl,hlc,hcm,fun h0=>⟨a.block,a.off,by rw [←hplain h0]⟩,fun i hi=>?_⟩;obtain ⟨es,y,h1,h2⟩:=key i hi;obtain ⟨_,hl,hcell⟩:=World.cells?_some h1;refine ⟨a.block,a.off,es,n,y,by rw [←hplain (by omega)],hl,fun j hj=>?_,h2⟩;have h3:=hcell j (by omega);rw [hplain (by omega),Xah,Xah] at h3;exact h3
theorem Xia {t:TypeId} {fs:Array Field} {fuel:Nat} {cs:List Value} {x:DataW H × List MemPlace} (ht:P.underlying t=some (.struct fs)) (h:DataW.trod enc P w base spare held fuel t cs=some x) (i:Nat) (f:Field) (hf:fs[i]?=some f) :
  ∃ n y,DataW.trod enc P w base spare held n f.type ((cs.drop f.offset).take (P.cellsOf f.type))=some y:=by
 obtain ⟨xs,n,_,_,_,hl,hfd⟩:=DataW.trod_struct ht h;have h1:=hfd i f hf
 have hi:i<fs.size:=by
  rcases Yv i fs.size with h2 | h2
  ·exact h2
  ·rw [Array.getElem?_eq_none h2] at hf;cases hf
 rw [Zc (by omega)] at h1;exact ⟨n,_,h1⟩
end
end Go.Proofs.YtiijokopcgnokaaGreat
namespace Go.Proofs.YtiijokopcgnokaaGreat
open Go.ChangeShapes Go.WideShapes Go.RowKit
section
variable {H : Type} {enc : TypeId × Value → H} {P : Program} {w : World} {base : Nat} {spare : Nat → Bool} {held : Bool}
theorem Xko {t e:TypeId} {fuel:Nat} {cs:List Value} {x:DataW H × List MemPlace} (ht:P.underlying t=some (.slice e)) (hc:0<P.cellsOf e) (h:DataW.trod enc P w base spare held fuel t cs=some x) :
  ∃ ao len cap,cs=[.slice ao len cap]∧len≤cap∧cap≤maxLen∧(0<len→∃ b o,ao=some ⟨b,o,none⟩)∧(0<len→∃ els sp,x.1=.slice els sp∧els.length=len)∧∀ i,i<len→∃ b o es n y els sp,ao=some ⟨b,o,none⟩∧es.length=P.cellsOf e∧(∀ j,j<P.cellsOf e→w.cell? ⟨b,o+i*P.cellsOf e+j,none⟩=es[j]?)∧DataW.trod enc P w base spare held n e es=some y∧x.1=.slice els sp∧y.1∈els:=by
 rcases DataW.trod_slice ht h with ⟨rfl,_⟩ | ⟨a,len,cap,elems,rest,n,_,rfl,hx,hb,hlc,hcm,hel,hcells,_⟩
 ·exact ⟨none,0,0,rfl,Zq _,by unfold maxLen;omega,fun h=>by omega,fun h=>by omega,fun i hi=>by omega⟩
 ·have key:∀ i,i<len→∃ es y,w.cells? base (a.add (i*P.cellsOf e)) (P.cellsOf e)=some es∧DataW.trod enc P w base spare held n e es=some y∧y∈elems:=by
   intro i hi;have h1:=hcells i hi
   have hi2:i<elems.length:=by omega
   rw [Zc hi2] at h1;simp only [Option.bind_eq_some_iff] at h1;obtain ⟨es,h2,h3⟩:=h1;exact ⟨es,_,h2,h3,Yx hi2⟩
  have hplain:0<len→a=⟨a.block,a.off,none⟩:=by
   intro h0;obtain ⟨es,y,h1,_⟩:=key 0 h0;obtain ⟨_,hl,hcell⟩:=World.cells?_some h1;have h2:=hcell 0 (by omega);rw [Zc (by omega)] at h2;rw [show (a.add (0*P.cellsOf e)).add 0=a by simp [Addr.add]] at h2;exact Xlg h2
  refine ⟨some a,len,cap,rfl,hlc,hcm,fun h0=>⟨a.block,a.off,by rw [←hplain h0]⟩,fun _=>⟨_,_,by rw [hx],by rw [Zl];exact hel⟩,fun i hi=>?_⟩;obtain ⟨es,y,h1,h2,h4⟩:=key i hi;obtain ⟨_,hl,hcell⟩:=World.cells?_some h1;refine ⟨a.block,a.off,es,n,y,_,_,by rw [←hplain (by omega)],hl,fun j hj=>?_,h2,by rw [hx],Zi.2 ⟨y,h4,rfl⟩⟩;have h3:=hcell j (by omega);rw [hplain (by omega),Xah,Xah] at h3;exact h3
theorem field_trodU {t:TypeId} {fs:Array Field} {fuel:Nat} {cs:List Value} {x:DataW H × List MemPlace} (ht:P.underlying t=some (.struct fs)) (h:DataW.trod enc P w base spare held fuel t cs=some x) (i:Nat) (f:Field) (hf:fs[i]?=some f) :
  ∃ n y parts,DataW.trod enc P w base spare held n f.type ((cs.drop f.offset).take (P.cellsOf f.type))=some y∧x.1=.agg parts∧y.1∈parts:=by
 obtain ⟨xs,n,_,hx,_,hl,hfd⟩:=DataW.trod_struct ht h;have h1:=hfd i f hf
 have hi:i<fs.size:=by
  rcases Yv i fs.size with h2 | h2
  ·exact h2
  ·rw [Array.getElem?_eq_none h2] at hf;cases hf
 have hi2:i<xs.length:=by omega
 rw [Zc hi2] at h1;exact ⟨n,_,_,h1,by rw [hx],Zi.2 ⟨_,Yx hi2,rfl⟩⟩
end
end Go.Proofs.YtiijokopcgnokaaGreat
