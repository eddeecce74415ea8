import Derived.Test.YtiijokopcgnokaaGreatRows
import Derived.Test.YtiijokopcgnokaaGreatWPageS
import Derived.Test.YtiijokopcgnokaaGreatWPoolV
import Derived.Test.YtiijokopcgnokaaGreatWTwN
import Derived.Test.YtiijokopcgnokaaGreatWGrA
import Derived.Test.YtiijokopcgnokaaGreatWGrD
set_option maxRecDepth 100000
set_option maxHeartbeats 8000000
set_option linter.unusedSimpArgs false
set_option linter.unusedVariables false
namespace Go.Proofs.YtiijokopcgnokaaGreat
namespace T
open Go Go.RowKit B C G Go.Proofs.Tryz
structure StepD where
 what:Int
 i:Int
 row:List UInt8
 x:Nat
def Xpq (s:StepD) (kv:Value):List Value:=[.int .i64 s.what,.int .i64 s.i,kv,.int .u64 s.x]
structure StepAt (w:World) (b o:Nat) (s:StepD) (kv:Value):Prop where
 cells:∀ j,j<4→w.cell? ⟨b,o+j,none⟩=(Xpq s kv)[j]?
 bytes:Xbs w kv s.row
 x:s.x<18446744073709551616
def stepZ : StepD:=⟨0,0,[],0⟩
def Xhw (w:World) (v:Value) (l:List StepD):Prop :=
 ∃ ao cap,v=.slice ao l.length cap∧l.length≤maxLen∧(0<l.length→∃ b o,ao=some ⟨b,o,none⟩∧∀ i,i<l.length→∃ kv,StepAt w b (o+i*4) (l.getD i stepZ) kv)
theorem StepAt.past {w w':World} {b o:Nat} {s:StepD} {kv:Value} (h:StepAt w b o s kv) (hO:Only [] w w'):StepAt w' b o s kv :=
 ⟨fun j hj=>by
  have h1:=h.cells j hj
  match j,hj,h1 with
  | 0,_,h1=>exact hO.cell h1 (by simp)
  | 1,_,h1=>exact hO.cell h1 (by simp)
  | 2,_,h1=>exact hO.cell h1 (by simp)
  | 3,_,h1=>exact hO.cell h1 (by simp),h.bytes.past hO,h.x⟩
theorem StepAt.c {w:World} {b o:Nat} {s:StepD} {kv:Value} (h:StepAt w b o s kv):w.cell? ⟨b,o,none⟩=some (.int .i64 s.what)∧w.cell? ⟨b,o+1,none⟩=some (.int .i64 s.i)∧w.cell? ⟨b,o+2,none⟩=some kv∧w.cell? ⟨b,o+3,none⟩=some (.int .u64 s.x) :=
 ⟨h.cells 0 (by omega),h.cells 1 (by omega),h.cells 2 (by omega),h.cells 3 (by omega)⟩
theorem Xhw.past {w w':World} {v:Value} {l:List StepD} (h:Xhw w v l) (hO:Only [] w w'):Xhw w' v l:=by
 obtain ⟨ao,cap,rfl,hm,hc⟩:=h;refine ⟨ao,cap,rfl,hm,fun h0=>?_⟩;obtain ⟨b,o,rfl,hs⟩:=hc h0;exact ⟨b,o,rfl,fun i hi=>(hs i hi).imp fun kv hk=>hk.past hO⟩
theorem bulk_one {H:Type} (d:DataW H):1≤Rows.uptoBulk d:=by
 cases d with
 | lit l=>cases l <;> simp [Rows.uptoBulk]
 | nil=>simp [Rows.uptoBulk]
 | ptr d=>simp [Rows.uptoBulk]
 | slice elems spare=>simp [Rows.uptoBulk]
 | agg parts=>simp [Rows.uptoBulk]
 | iface t d=>simp [Rows.uptoBulk]
 | map entries=>simp [Rows.uptoBulk]
 | held h=>simp [Rows.uptoBulk]
theorem Xoa {H:Type} {d:DataW H} {l:List (DataW H)} (h:d∈l):Rows.uptoBulk d≤Rows.uptoBulkAll l:=by
 induction l with
 | nil=>cases h
 | cons x r ih =>
  simp only [Rows.uptoBulkAll]
  cases Zg.1 h with
  | inl e=>subst e;omega
  | inr e=>have:=ih e;omega
theorem bulk_length {H:Type} (l:List (DataW H)):l.length≤Rows.uptoBulkAll l:=by
 induction l with
 | nil=>simp [Rows.uptoBulkAll]
 | cons x r ih=>have:=bulk_one x;simp only [Rows.uptoBulkAll,Zz];omega
section
open Go.ChangeShapes Go.WideShapes Go.Proofs.Tryz
variable {H : Type} {enc : TypeId × Value → H} {w : World} {base : Nat} {spare : Nat → Bool} {held : Bool}
theorem Xlh : prog.cellsOf 61=4:=by kernel_rfl
theorem Xod : prog.cellsOf 3=1:=by kernel_rfl
theorem cells_bytes : prog.cellsOf 22=1:=by kernel_rfl
theorem cells_u64 : prog.cellsOf 34=1:=by kernel_rfl
theorem Xge : prog.cellsOf 5=1:=by kernel_rfl
theorem bytes_trod {fuel:Nat} {cs:List Value} {x:DataW H × List MemPlace} (h:DataW.trod enc prog w base spare held fuel 22 cs=some x) :
  ∃ v l,cs=[v]∧Xbs w v l:=by
 obtain ⟨ao,len,cap,rfl,hlc,_,h0,hel⟩:=slice_trod underlying22 (by rw [Xge];omega) h
 have key:∀ i,∃ z:UInt8,i<len→∃ b o,ao=some ⟨b,o,none⟩∧w.cell? ⟨b,o+i,none⟩=some (.int .u8 z.toNat):=by
  intro i
  by_cases hi:i<len
  ·obtain ⟨b,o,es,n,y,rfl,hl,hcell,hy⟩:=hel i hi
   obtain ⟨z,rfl,_,hw⟩:=DataW.trod_int underlying5 hy;obtain ⟨u,rfl⟩:=u8_of hw;refine ⟨u,fun _=>⟨b,o,rfl,?_⟩⟩;have:=hcell 0 (by rw [Xge];omega)
   rw [Xge,Wi,Wm] at this;exact this
  ·exact ⟨0,fun h=>absurd h hi⟩
 let f:=fun i=>(key i).choose
 have hf:∀ i,i<len→∃ b o,ao=some ⟨b,o,none⟩∧w.cell? ⟨b,o+i,none⟩=some (.int .u8 (f i).toNat):=fun i=>(key i).choose_spec
 refine ⟨_,(List.range len).map f,rfl,⟨ao,cap,by simp,fun hp=>?_⟩,fun a n c he=>?_⟩
 ·have hp':0<len:=by simpa using hp
  obtain ⟨b,o,rfl⟩:=h0 hp';refine ⟨b,o,rfl,fun j hj=>?_⟩
  have hj':j<len:=by simpa using hj
  obtain ⟨b',o',he',hc'⟩:=hf j hj';simp only [Zw,Addr.mk.injEq,and_true] at he';obtain ⟨rfl,rfl⟩:=he';rw [hc',Zf,Zr,List.getElem?_range hj'];rfl
 ·simp only [Value.slice.injEq] at he
  omega
theorem bytes_trodU {fuel:Nat} {cs:List Value} {x:DataW H × List MemPlace} (h:DataW.trod enc prog w base spare held fuel 22 cs=some x) :
  ∃ v l,cs=[v]∧Xbs w v l∧l.length≤Rows.uptoBulk x.1:=by
 obtain ⟨v,l,hcs,hb⟩:=bytes_trod h;refine ⟨v,l,hcs,hb,?_⟩;obtain ⟨ao,len,cap,hcs2,_,_,_,hx,_⟩:=Xko underlying22 (by rw [Xge];omega) h
 rw [hcs] at hcs2;obtain ⟨ao2,cap2,he,_⟩:=hb.1;simp only [List.cons.injEq,and_true] at hcs2;rw [he] at hcs2;simp only [Value.slice.injEq] at hcs2
 rcases Wo l.length with h0 | h0
 ·omega
 ·obtain ⟨els,sp,hd,hl⟩:=hx (by omega)
  rw [hd];have:=bulk_length els;simp only [Rows.uptoBulk];omega
theorem step_trodU {fuel:Nat} {es:List Value} {x:DataW H × List MemPlace} (hl:es.length=4) (h:DataW.trod enc prog w base spare held fuel 61 es=some x) :
  ∃ (s:StepD) (kv:Value),es=Xpq s kv∧Xbs w kv s.row∧s.x<18446744073709551616∧s.row.length≤Rows.uptoBulk x.1:=by
 obtain ⟨e0,e1,e2,e3,rfl⟩:∃ e0 e1 e2 e3,es=[e0,e1,e2,e3]:=by
  match es,hl with
  | [e0,e1,e2,e3],_=>exact ⟨_,_,_,_,rfl⟩
 obtain ⟨n0,y0,h0⟩:=Xia underlying61 h 0 _ rfl;obtain ⟨n1,y1,h1⟩:=Xia underlying61 h 1 _ rfl;obtain ⟨n2,y2,parts,h2,hx,hm⟩:=field_trodU underlying61 h 2 _ rfl;obtain ⟨n3,y3,h3⟩:=Xia underlying61 h 3 _ rfl
 change DataW.trod enc prog w base spare held n0 3 (([e0,e1,e2,e3].drop 0).take (prog.cellsOf 3))=some y0 at h0
 rw [Xod] at h0
 change DataW.trod enc prog w base spare held n1 3 (([e0,e1,e2,e3].drop 1).take (prog.cellsOf 3))=some y1 at h1
 rw [Xod] at h1
 change DataW.trod enc prog w base spare held n2 22 (([e0,e1,e2,e3].drop 2).take (prog.cellsOf 22))=some y2 at h2
 rw [cells_bytes] at h2
 change DataW.trod enc prog w base spare held n3 34 (([e0,e1,e2,e3].drop 3).take (prog.cellsOf 34))=some y3 at h3
 rw [cells_u64] at h3;obtain ⟨z0,g0,_,w0⟩:=DataW.trod_int underlying3 h0;obtain ⟨z1,g1,_,w1⟩:=DataW.trod_int underlying3 h1;obtain ⟨kv,l,g2,hk,hle⟩:=bytes_trodU h2;obtain ⟨z3,g3,_,w3⟩:=DataW.trod_int underlying34 h3;simp only [Xp,Wh,Xv,Wc,List.cons.injEq,and_true] at g0 g1 g2 g3;subst g0 g1 g2 g3;have b3:=u64_bounds w3;obtain ⟨x3,rfl⟩:=Int.eq_ofNat_of_zero_le b3.1;refine ⟨⟨z0,z1,l,x3⟩,_,rfl,hk,by show x3<_;omega,?_⟩
 have:=Xoa hm;rw [hx];simp only [Rows.uptoBulk];omega
theorem open_stepsU {b0:Nat} {r:Reach} {v:Value} {d:DataW H} {ps:List MemPlace} (hv:Value.okWide prog w r b0 55 v) (h:DataW.Trod enc prog w base spare held 55 v d ps):∃ l:List StepD,Xhw w v l∧∀ i,(l.getD i stepZ).row.length≤Rows.uptoBulk d:=by
 obtain ⟨a0,len,cap,rfl⟩:=okWide_slice underlying55 hv;obtain ⟨fuel,hf⟩:=h;obtain ⟨ao,len',cap',hcs,hlc,hcm,h0,_,hel⟩:=Xko underlying55 (by rw [Xlh];omega) hf
 simp only [Value.cells,List.cons.injEq,Value.slice.injEq,and_true] at hcs;obtain ⟨rfl,rfl,rfl⟩:=hcs;rw [Xlh] at hel
 have key:∀ i,∃ s:StepD,i<len→(∃ b o kv,a0=some ⟨b,o,none⟩∧StepAt w b (o+i*4) s kv)∧s.row.length≤Rows.uptoBulk d:=by
  intro i
  by_cases hi:i<len
  ·obtain ⟨b,o,es,n,y,els,sp,rfl,hl,hcell,hy,hx,hm⟩:=hel i hi
   obtain ⟨s,kv,rfl,hk,h3,h4⟩:=step_trodU hl hy;refine ⟨s,fun _=>⟨⟨b,o,kv,rfl,hcell,hk,h3⟩,?_⟩⟩;have:=Xoa hm;simp only at hx;rw [hx];simp only [Rows.uptoBulk];omega
  ·exact ⟨stepZ,fun h=>absurd h hi⟩
 let f:=fun i=>(key i).choose
 have hf2:∀ i,i<len→(∃ b o kv,a0=some ⟨b,o,none⟩∧StepAt w b (o+i*4) (f i) kv)∧(f i).row.length≤Rows.uptoBulk d:=fun i=>(key i).choose_spec
 have hget:∀ j,j<len→((List.range len).map f).getD j stepZ=f j:=fun j hj=>by
  rw [Zf,Zr,List.getElem?_range hj];rfl
 refine ⟨(List.range len).map f,⟨a0,cap,by simp,by simp;omega,fun hp=>?_⟩,fun i=>?_⟩
 ·have hp':0<len:=by simpa using hp
  obtain ⟨b,o,rfl⟩:=h0 hp';refine ⟨b,o,rfl,fun j hj=>?_⟩
  have hj':j<len:=by simpa using hj
  obtain ⟨b',o',kv,he',hk⟩:=(hf2 j hj').1;simp only [Zw,Addr.mk.injEq,and_true] at he';obtain ⟨rfl,rfl⟩:=he';rw [hget j hj'];exact ⟨kv,hk⟩
 ·rcases Yv i len with hi | hi
  ·rw [hget i hi];exact (hf2 i hi).2
  ·rw [Zf,Xb (by simp;exact hi)]
   have:=bulk_one d;exact Yc _
end
end T
namespace T
open Go Go.RowKit D B C G P Go.Proofs.Tryz
theorem Xpo {w:World} {g o n c:Nat} {cs:List Value} (h:Blk w g cs 5) (hn:o+n≤cs.length) (hl:n≤1048576) :
  Calls prog 23 #[.slice (some ⟨g,o,none⟩) n c] w fun e w'=>e=.returned (.tuple #[])∧Only [g] w w':=by
 have HH:=Th h;have HN:=Th hn;clear h hn
 go_enter func23,ntmps23
 go_wp2_with fail
 go_loopg [2] n (fun gk i wr=>∃ (k:Nat) (cs':List Value),gk=n-k∧k≤n∧i=.int .i64 k∧o+n≤cs'.length∧Blk wr g cs' 5∧Only [g] w wr)
 case atStart=>exact ⟨0,cs,by omega,Yc _,rfl,HN.out,HH.out,Only.refl _ _⟩
 case round =>
  obtain ⟨k,cs',hgk,hk,rfl,hcl,hb,hO⟩:=hrel;have HGK:=Th hgk;have HCL:=Th hcl;have HB:=Th hb;have HO:=Th hO;clear hgk hcl hb hO
  by_cases hlt:k<n
  ·obtain ⟨oldv,cw⟩:=HB.out.at (o+k) (by have:=HCL.out;omega)
   have fw:=HB.out.frozen (o+k)
   have hk0:(0:Int)≤k:=by omega
   have hk1:(k:Int)<n:=by omega
   go_wp2_with fail
   go_roundg (n-(k+1))
   case measure=>have:=HGK.out;omega
   case rel=>exact ⟨k+1,cs'.set (o+k) (.int .u8 238),rfl,by omega,by go_num,by rw [Yz];exact HCL.out,HB.out.set (o+k) _,HO.out.setCell (p:=⟨g,o+k,none⟩) (.inl (by simp)) _⟩
  ·obtain rfl:k=n:=by omega
   go_wp2_with fail
   go_end0
   exact ⟨rfl,HO.out⟩
theorem Xpp {w:World} (ao:Option Addr) (c:Nat):Calls prog 23 #[.slice ao 0 c] w fun e w'=>e=.returned (.tuple #[])∧w=w':=by
 go_enter func23,ntmps23
 go_wp2_with fail
 go_loopg [2] 0 (fun gk i wr=>i=.int .i64 0∧wr=w)
 case atStart=>exact ⟨rfl,rfl⟩
 case round =>
  obtain ⟨rfl,rfl⟩:=hrel
  go_wp2_with fail
  go_end0
  exact ⟨rfl,rfl⟩
theorem Xho {w:World} {v:Value} {l:List UInt8} (h:Xau 5 w v l) (hl:l.length≤1048576) :
  Calls prog 23 #[v] w fun e w'=>e=.returned (.tuple #[])∧Only v.ownBlock.toList w w':=by
 rcases h.2 with ⟨rfl,h0⟩ | ⟨g,cap,cur,rfl,_,hh,h3,_,h5,_⟩
 ·refine (Xpp none 0).mono ?_
  rintro e w' ⟨he,rfl⟩;exact ⟨he,Only.refl _ _⟩
 ·have hb:Blk w g cur.toList 5:=by unfold Blk;rw [Array.toArray_toList];exact hh
  have h6:l.length≤cur.toList.length:=by
   have e:cur.toList.length=cur.size:=Array.length_toList
   rw [e,h5];omega
  refine (Xpo hb (o:=0) (n:=l.length) (by omega) hl).mono ?_
  rintro e w' ⟨he,hO⟩;exact ⟨he,by simpa [Value.ownBlock] using hO⟩
def sumF (l:List StepD):Nat→Nat
 | 0=>0
 | n+1=>sumF l n+min (l.getD n stepZ).row.length 400
theorem sumF_le (l:List StepD):∀ n,sumF l n≤400*n
 | 0=>Zq _
 | n+1=>by
  have:=sumF_le l n;show sumF l n+_≤_;omega
def fewH (l:List StepD):Bool:=decide (l.length≤300∧sumF l l.length≤9000)
theorem few_any {w:World} {v:Value} {l:List StepD} (h:Xhw w v l) :
  Calls prog 22 #[v] w fun e w'=>e=.returned (.bool (fewH l))∧w=w':=by
 obtain ⟨ao,cap,rfl,hm,hc⟩:=h;have HC:=Th hc;have SL:=Th (sumF_le l)
 have SS:Hid (∀ j,sumF l (j+1)=sumF l j+min (l.getD j stepZ).row.length 400):=fun j=>rfl
 have HZ:Hid (fewH l=decide (l.length≤300∧sumF l l.length≤9000)):=rfl;clear hc;generalize fewH l=z at *;generalize l.length=n at *
 have hm2:n≤9223372036854775807:=by unfold maxLen at hm;omega
 clear hm
 by_cases hn:n≤300
 ·go_enter func22,ntmps22
  go_wp2_with fail
  go_loopg [3,4] n (fun gk s3 s4 wx=>∃ j:Nat,gk=n-j∧j≤n∧s3=.int .i64 (sumF l j:Nat)∧s4=.int .i64 j∧wx=w)
  case atStart=>exact ⟨0,rfl,Yc _,rfl,rfl,rfl⟩
  case round =>
   obtain ⟨j,hgk,hj,rfl,rfl,rfl⟩:=hrel;have HGK:=Th hgk;have hsl:=SL.out j;clear hgk
   by_cases hlt:j<n
   ·have hj0:(0:Int)≤j:=by omega
    have hj1:(j:Int)<n:=by omega
    obtain ⟨b,o,rfl,hst⟩:=HC.out (by omega);obtain ⟨kv,hk⟩:=hst j hlt;have hb:=hk.bytes.1;have y3:=hk.c.2.2.1;obtain ⟨ak,kc,rfl,_⟩:=hb;clear hst hk;have S1:=Th (SS.out j);generalize (l.getD j stepZ).row.length=m at *;generalize sumF l j=sj at *
    go_wp2_with fail
    all_goals
     go_roundg (n-(j+1))
     case measure=>have:=HGK.out;omega
     case rel=>exact ⟨j+1,rfl,by omega,by rw [S1.out];congr 1;omega,by go_num,rfl⟩
   ·obtain rfl:j=n:=by omega
    have h1:(j:Int)≤300:=by omega
    by_cases h2:sumF l j≤9000
    ·have HR:Hid (z=true):=by show _=_;rw [HZ.out];simp [hn,h2]
     have h3:(sumF l j:Int)≤9000:=by omega
     generalize sumF l j=sj at *
     go_wp2_with fail
     go_ret;rw [HR.out];exact ⟨rfl,rfl⟩
    ·have HR:Hid (z=false):=by show _=_;rw [HZ.out];simp [h2]
     have h3:¬(sumF l j:Int)≤9000:=by omega
     generalize sumF l j=sj at *
     go_wp2_with fail
     go_ret;rw [HR.out];exact ⟨rfl,rfl⟩
 ·have HR:Hid (z=false):=by show _=_;rw [HZ.out];simp [hn]
  go_enter func22,ntmps22
  go_wp2_with fail
  go_loopg [3,4] n (fun gk s3 s4 wx=>∃ (j:Nat) (x:Int),gk=n-j∧j≤n∧s3=.int .i64 x∧s4=.int .i64 j∧wx=w)
  case atStart=>exact ⟨0,0,rfl,Yc _,rfl,rfl,rfl⟩
  case round =>
   obtain ⟨j,x,hgk,hj,rfl,rfl,rfl⟩:=hrel;have HGK:=Th hgk;clear hgk
   by_cases hlt:j<n
   ·have hj0:(0:Int)≤j:=by omega
    have hj1:(j:Int)<n:=by omega
    obtain ⟨b,o,rfl,hst⟩:=HC.out (by omega);obtain ⟨kv,hk⟩:=hst j hlt;have hb:=hk.bytes.1;have y3:=hk.c.2.2.1;obtain ⟨ak,kc,rfl,_⟩:=hb;clear hst hk;generalize (l.getD j stepZ).row.length=m at *
    go_wp2_with fail
    all_goals
     go_roundg (n-(j+1))
     case measure=>have:=HGK.out;omega
     case rel=>exact ⟨j+1,_,rfl,by omega,rfl,by go_num,rfl⟩
   ·obtain rfl:j=n:=by omega
    have h1:¬(j:Int)≤300:=by omega
    go_wp2_with fail
    go_ret;rw [HR.out];exact ⟨rfl,rfl⟩
end T
namespace T
open Go Go.RowKit D B C G P H Go.Proofs.Tryz
structure EntR (w:World) (M:List Nat) (v:Value) (L:List KV):Prop where
 row:RowOn w 43 2 v L.length (kvsC L)
 keys:∀ q∈L,KeyOk w M q
 off:∀ g,v.ownBlock=some g→g∉M
section
variable {w w' : World} {M M' : List Nat} {v v' : Value} {L : List KV}
theorem EntR.nil (w:World) (M:List Nat):EntR w M (.slice none 0 0) []:=⟨RowOn.nil _ _ _,fun q hq=>(by cases hq),fun g hg=>(by cases hg)⟩
theorem EntR.step (h:EntR w M v L) (hS:Step M M' w w'):EntR w' M' v L :=
 ⟨h.row.later hS.1 h.off,fun q hq=>(h.keys q hq).step hS,fun g hg=>P.Step.keep hS (h.row.lt hg) (h.off g hg)⟩
theorem EntR.past (h:EntR w M v L) (hO:Only [] w w'):EntR w' M v L:=h.step ((Step.refl M w).then hO)
theorem EntR.over (h:EntR w M v L) {X:List Nat} (hO:Only (M++X) w w') (hX:∀ g cs,Blk w g cs 5→g∉X) (hv:∀ g,v.ownBlock=some g→g∉X) (hm:∀ x∈M',x∈M∨w.heap.size≤x):EntR w' M' v L:=by
 refine ⟨h.row.later hO (fun g hg hx=>?_),fun q hq=>(h.keys q hq).over hO (fun g hg=>?_) hm,fun g hg hx=>?_⟩
 ·rcases Za.1 hx with h1 | h1
  ·exact h.off g hg h1
  ·exact hv g hg h1
 ·obtain ⟨_,cs,hb⟩:=(h.keys q hq).blk g hg
  exact hX g cs hb
 ·rcases hm g hx with h1 | h1
  ·exact h.off g hg h1
  ·have:=h.row.lt hg;omega
theorem EntR.prs (h:EntR w M v L):PrsAt w v L:=by
 obtain ⟨ao,cap,h1,h2,h3⟩:=h.row.shape;refine ⟨⟨ao,cap,h1,h2,fun h0=>?_⟩,fun p hp=>(h.keys p hp).bytes⟩;obtain ⟨g,hg,hc⟩:=h3 h0;refine ⟨g,0,hg,fun i p hp=>?_⟩;obtain ⟨c0,c1⟩:=Xfd hp;have hi:=(Zh.1 hp).1;rw [Yd];exact ⟨(hc _ (by omega)).trans c0,(hc _ (by omega)).trans c1⟩
theorem EntR.at_ (h:EntR w M v L) {i:Nat} {q:KV} (hq:L[i]?=some q):∃ g cap a k,v=.slice (some ⟨g,0,none⟩) L.length cap∧w.cell? ⟨g,i*2,none⟩=some (.slice a q.2.1.length k)∧w.cell? ⟨g,i*2+1,none⟩=some (.int .u64 q.2.2)∧Xae w (.slice a q.2.1.length k) q.2.1:=by
 obtain ⟨ao,cap,h1,h2,h3⟩:=h.row.shape;have hi:=(Zh.1 hq).1;obtain ⟨g,rfl,hc⟩:=h3 (by omega);obtain ⟨c0,c1⟩:=Xfd hq;have hb:=(h.keys q (Zm hq)).bytes;obtain ⟨a,k,he,_⟩:=id hb;rw [he] at c0 hb;exact ⟨g,cap,a,k,h1,(hc _ (by omega)).trans c0,(hc _ (by omega)).trans c1,hb⟩
end
theorem set_two (A:List Value) (y0 y1 a b:Value) (R:List Value):((A++y0 :: y1 :: R).set A.length a).set (A.length+1) b=A++a :: b :: R:=by
 rw [Vc _ _ (Zq _),Wd,qSz,Vc _ _ (by omega),show A.length+1-A.length=0+1 by omega,qSs,qSz]
theorem ins_row {cur:List Value} {L:List KV} {n cap j off:Nat} {z0 z1 a:Value} {e:Pr} (hl:L.length=n) (hj:j≤n) (ht:cur.take ((n+1)*2)=kvsC L++[z0,z1]) (hcl:(n+1)*2≤cur.length) (ho:off=if cap=j+1 then 0 else (j+1)*2) (hcap:n+1≤cap) :
  (((splice cur off ((kvsC L).drop (j*2))).set (j*2) a).set (j*2+1) (.int .u64 e.2)).take ((n+1)*2)=kvsC (L.take j++(a,e) :: L.drop j):=by
 have hX:=Xcu L
 have hcur:cur=kvsC L++[z0,z1]++cur.drop ((n+1)*2):=by rw [←ht,Yf]
 generalize cur.drop ((n+1)*2)=R at hcur
 have hgoal:kvsC (L.take j++(a,e) :: L.drop j)=(kvsC L).take (j*2)++a :: .int .u64 e.2 :: (kvsC L).drop (j*2):=by
  rw [Xbm,Xed];show _++(kvC (a,e)++kvsC (L.drop j))=_;rw [Xfq];rfl
 rw [hgoal]
 have hA:((kvsC L).take (j*2)).length=j*2:=by rw [Zj];omega
 have key:∀ y0 y1,splice cur off ((kvsC L).drop (j*2))=(kvsC L).take (j*2)++y0 :: y1 :: ((kvsC L).drop (j*2)++R)→(((splice cur off ((kvsC L).drop (j*2))).set (j*2) a).set (j*2+1) (.int .u64 e.2)).take ((n+1)*2)=(kvsC L).take (j*2)++a :: .int .u64 e.2 :: (kvsC L).drop (j*2):=fun y0 y1 h=>by
  rw [h];have h2:=set_two ((kvsC L).take (j*2)) y0 y1 a (.int .u64 e.2) ((kvsC L).drop (j*2)++R);rw [hA] at h2;rw [h2]
  have h3:(kvsC L).take (j*2)++a :: .int .u64 e.2 :: ((kvsC L).drop (j*2)++R)=((kvsC L).take (j*2)++a :: .int .u64 e.2 :: (kvsC L).drop (j*2))++R:=by simp
  rw [h3,Wx]
  simp only [Ze,Zz,Zj,Zy];omega
 by_cases hc:cap=j+1
 ·rw [if_pos hc] at ho
  have hjn:j=n:=by omega
  subst ho;have hd:(kvsC L).drop (j*2)=[]:=List.drop_eq_nil_of_le (by omega);have htk:(kvsC L).take (j*2)=kvsC L:=Ya (by omega)
  refine key z0 z1 ?_
  rw [hd,htk];simp only [splice,Wc,Ym,Wn,Wm,Xp]
  conv=>lhs;rw [hcur]
  simp
 ·rw [if_neg hc] at ho
  subst ho
  have hlen2:((kvsC L).drop (j*2)).length=(n-j)*2:=by rw [Zy];omega
  obtain ⟨y0,y1,hy⟩:∃ y0 y1,((kvsC L).drop (j*2)++[z0,z1]).take 2=[y0,y1]:=by
   cases hq:(kvsC L).drop (j*2) with
   | nil=>exact ⟨z0,z1,rfl⟩
   | cons p q =>
    cases q with
    | nil=>rw [hq] at hlen2;simp at hlen2;omega
    | cons p2 q=>exact ⟨p,p2,rfl⟩
  refine key y0 y1 ?_
  unfold splice
  have h1:cur.take ((j+1)*2)=(kvsC L).take (j*2)++[y0,y1]:=by
   conv=>lhs;rw [hcur]
   have h2:kvsC L++[z0,z1]++R=(kvsC L).take (j*2)++(((kvsC L).drop (j*2)++[z0,z1])++R):=by
    rw [←Zu,←Zu,Yf]
   rw [h2,List.take_append,hA,show (j+1)*2-j*2=2 by omega,Ya (by rw [hA];omega),Xm (by rw [Ze];simp),hy]
  have h3:cur.drop ((j+1)*2+((kvsC L).drop (j*2)).length)=R:=by
   rw [hlen2,show (j+1)*2+(n-j)*2=(n+1)*2 by omega]
   conv=>lhs;rw [hcur]
   rw [Wy]
   simp;omega
  rw [h1,h3];simp
theorem del_kvs (L:List KV) (i:Nat):(kvsC L).take (i*2)++(kvsC L).drop ((i+1)*2)=kvsC (L.take i++L.drop (i+1)):=by
 rw [Xbm,Xed,Xfq]
end T
namespace T
open Go Go.RowKit D B C G P H Go.Proofs.Tryz
section
variable {w wr w' : World} {n p tb k : Nat} {M M' : List Nat} {u u' : List Bool} {pg pg' : Nat → List UInt8} {v v' : Value} {L L' : List KV}
theorem row_noSec {X:List Nat} (hX:∀ x∈X,∃ cs,Blk wr x cs 43):NoSec wr X∧Off 5 wr X:=by
 refine ⟨fun x hx cs hb=>?_,fun x hx cs hb=>?_⟩ <;> (obtain ⟨cs2,hb2⟩:=hX x hx;exact absurd (hb.inj hb2).2 (by decide))
end
end T
namespace T
open Go Go.RowKit D B C G P H Go.Proofs.Tryz
section
variable {w w1 w2 w3 : World} {M M' : List Nat} {v v' a : Value} {L : List KV} {e : Pr} {j n : Nat}
theorem ent_plan (hl:L.length=n) (hj:j≤n) (hG:GrewOn w1 w2 43 2 v v' (n+1) (kvsC L++[.slice none 0 0,.int .u64 0])) :
  ∃ g cap cur off,v'=.slice (some ⟨g,0,none⟩) (n+1) cap∧n+1≤cap∧Blk w2 g cur 43∧(if cap=j+1 then some (⟨g,0,none⟩:Addr) else some ⟨g,(j+1)*2,none⟩)=some ⟨g,off,none⟩ ∧
   (∀ i u,((kvsC L).drop (j*2))[i]?=some u→w2.cell? ((⟨g,j*2,none⟩:Addr).add i)=some u)∧((kvsC L).drop (j*2)).length=(n-j)*2∧off+((kvsC L).drop (j*2)).length≤cur.length∧j*2+1<cur.length ∧
   (splice cur off ((kvsC L).drop (j*2))).length=cur.length ∧
   ∀ (a:Value) (e:Pr) (w3:World),Blk w3 g (((splice cur off ((kvsC L).drop (j*2))).set (j*2) a).set (j*2+1) (.int .u64 e.2)) 43→RowOn w3 43 2 v' (n+1) (kvsC (L.take j++(a,e) :: L.drop j)):=by
 obtain ⟨hlen,⟨rfl,h0⟩ | ⟨g,cap,cur,rfl,hb,hc,hs,ht⟩⟩:=hG.own
 ·omega
 have hX:=Xcu L;obtain ⟨off,ho⟩:∃ off,(if cap=j+1 then 0 else (j+1)*2)=off:=⟨_,rfl⟩
 have hd:((kvsC L).drop (j*2)).length=(n-j)*2:=by rw [Zy];omega
 have hof:off+((kvsC L).drop (j*2)).length≤cur.length:=by
  rw [hd,←ho]
  split <;> omega
 refine ⟨g,cap,cur,off,rfl,hc,hb,?_,fun i u hu=>?_,hd,hof,by omega,I.splice_len hof,fun a e w3 hb3=>?_⟩
 ·rw [←ho];split <;> rfl
 ·rw [Xah,hb.cell]
  rw [Xh] at hu;have hi:=(Zh.1 hu).1
  have h1:(cur.take ((n+1)*2))[j*2+i]?=some u:=by
   rw [ht,Xo hi,hu]
  rw [Yq] at h1;split at h1
  ·exact h1
  ·cases h1
 ·refine ⟨?_,.inr ⟨g,cap,_,rfl,hb3,hc,?_,ins_row hl hj ht (by omega) ho.symm hc⟩⟩
  ·rw [Xcu,Ze,Zz,Zj,Zy];omega
  ·rw [Yz,Yz,I.splice_len hof];exact hs
theorem ins_snd (hj:low (L.map (·.2)) e=j):(L.take j++(a,e) :: L.drop j).map (·.2)=insP (L.map (·.2)) e:=by
 subst hj
 simp [insP,Xx,Wk]
theorem low_at {E:List Pr} {x:Pr} {i:Nat} (hE:Up E) (h:E[i]?=some x):low E x=i∧has E x=true:=by
 obtain ⟨hi,rfl⟩:=Zh.1 h;refine ⟨low_eq (by omega) (fun j hj=>(Yy.1 hE) j i _ _ hj) (fun _=>lt_irrefl _),(Xjy hE).2 (Yx _)⟩
theorem del_snd {x:Pr} {i:Nat} (hE:Up (L.map (·.2))) (h:(L.map (·.2))[i]?=some x):(L.take i++L.drop (i+1)).map (·.2)=delP (L.map (·.2)) x:=by
 unfold delP;rw [(low_at hE h).1,List.eraseIdx_eq_take_drop_succ,Zs,Xx,Wk]
theorem ent_cut {w:World} {v:Value} {L:List KV} {n i:Nat} (h:RowOn w 43 2 v n (kvsC L)) (hl:L.length=n) (hi:i<n) :
  ∃ g cap z,v=.slice (some ⟨g,0,none⟩) n cap∧n≤cap∧(if cap=i+1 then some (⟨g,0,none⟩:Addr) else some ⟨g,(i+1)*2,none⟩)=some ⟨g,z,none⟩∧RowOn w 43 2 (.slice (some ⟨g,0,none⟩) i i) i ((kvsC L).take (i*2)) ∧
   ((kvsC L).drop ((i+1)*2)).length=(n-(i+1))*2∧(0<n-(i+1)→∃ ad,some (⟨g,z,none⟩:Addr)=some ad∧∀ j u,((kvsC L).drop ((i+1)*2))[j]?=some u→w.cell? (ad.add j)=some u):=by
 obtain ⟨ao,cap,hv,hc,hr⟩:=h.cut (k:=i) (by omega);obtain ⟨ao2,cap2,hv2,hc2,hcell⟩:=h.shape;obtain ⟨g,rfl,hcl⟩:=hcell (by omega);rw [hv] at hv2
 injection hv2 with e1 e2 e3
 subst e1;obtain rfl:cap=cap2:=e3;have hX:=Xcu L;obtain ⟨z,hz⟩:∃ z,(if cap=i+1 then 0 else (i+1)*2)=z:=⟨_,rfl⟩;refine ⟨g,cap,z,hv,hc2,?_,hr,by rw [Zy];omega,fun h0=>⟨_,rfl,fun j u hu=>?_⟩⟩
 ·rw [←hz];split <;> rfl
 ·rw [if_neg (by omega)] at hz
  subst hz;rw [Xh] at hu;have:=(Zh.1 hu).1;rw [Xah,hcl _ (by omega),hu]
end
end T
namespace T
open Go Go.RowKit D B C G P H Go.Proofs.Tryz
theorem Xnl {w:World} {tb:Nat} {M:List Nat} {kv:Value} {l:List UInt8} (hb:Xae w kv l) (hl:l.length≤1048576) (hM:∀ y∈M,y<w.heap.size) :
  Calls prog 15 #[.pointer (some ⟨tb,0,none⟩),kv] w fun e w'=>∃ cb v',e=.returned (.pointer (some ⟨cb,0,none⟩))∧CurAt w' M cb tb v' (l,0) false∧w.heap.size≤cb∧(∀ g,v'.ownBlock=some g→w.heap.size≤g)∧Only [] w w':=by
 have CL:=Th (Xcj hb (by omega));obtain ⟨ka,kc,hkv,_⟩:=id hb;subst hkv;have HM:=Th hM;clear hb hM
 go_enter func15,ntmps15
 go_wp2_with (go_at_call 41;refine CL.out.mono ?_;rintro e w1 ⟨v',rfl,ho1⟩;obtain ⟨a1,c1,rfl⟩:=Xac ho1.1;have OW1:=Th ho1;clear ho1)
 go_ret;have hO:Only [] w1 (w1.alloc (.cells #[.pointer (some ⟨tb,0,none⟩),.slice a1 l.length c1,.int .u64 0,.bool false] 98)):=(Only.refl _ _).alloc _;have hsz:=OW1.out.2.2.size;refine ⟨w1.heap.size,.slice a1 l.length c1,rfl,⟨Blk.new [.pointer (some ⟨tb,0,none⟩),.slice a1 l.length c1,.int .u64 0,.bool false] 98 w1,(Xgv OW1.out HM.out (by decide:(0:Nat)<18446744073709551616)).past hO,fun hm=>by have:=HM.out _ hm;omega⟩,hsz,OW1.out.2.1,OW1.out.2.2.trans hO (by simp)⟩
theorem has_long {w:World} {tb x:Nat} {kv:Value} {l:List UInt8} (hb:Xae w kv l) (hl:300<l.length) :
  Calls prog 13 #[.pointer (some ⟨tb,0,none⟩),kv,.int .u64 x] w fun e w'=>e=.returned (.tuple #[.bool false,.int .i64 80])∧Only [] w w':=by
 have EN:=Th (Xhz hb hl x);obtain ⟨ka,kc,hkv,_⟩:=id hb;subst hkv;clear hb hl
 go_enter func13,ntmps13
 go_wp2_with (go_at_call 30;refine EN.out.mono ?_;rintro e w1 ⟨rfl,ho1⟩;have O1:=Th ho1;clear ho1)
 go_ret2;refine ⟨by rfl,O1.out.trans (M':=[]) ((Only.refl _ _).alloc _) (by simp)⟩
section
variable {Q : Pr → Prop} {w w' : World} {p tb N k : Nat} {M M' : List Nat} {u : List Bool} {pg : Nat → List UInt8} {E : List Pr}
theorem OneQ.hasP (h:OneQ Q w p tb N M u pg k E) {x m:Nat} {kv:Value} {l:List UInt8} {b:Bool} (hb:Xae w kv l) (hl:l.length≤300) (hx:x<18446744073709551616) (hm:mostP E≤m) (hm1:m≤1000) (hk:k+8*m≤900000) (hh:has E (l,x)=b) :
  Calls prog 13 #[.pointer (some ⟨tb,0,none⟩),kv,.int .u64 x] w fun e w'=>∃ M',e=.returned (.tuple #[.bool b,.int .i64 0])∧OneQ Q w' p tb N M' u pg (k+(2*m+2)) E∧Step M M' w w':=by
 obtain ⟨H,T,hT⟩:=h.tree;obtain ⟨h1,h2,h3,h4,h5⟩:=id hT;have hH:=Xct h1.wf
 refine (hasT_any h.pool h.at_ h.off h1 (by omega) (by omega) hb hl hx).mono ?_
 rintro e w' ⟨M',rfl,hP',hS'⟩;exact ⟨M',by rw [h2,hh],(h.step hP' hS').more (by omega),hS'⟩
theorem OneQ.lenT (h:OneQ Q w p tb N M u pg k E) {m:Nat} (hm:mostP E≤m) (hm1:m≤1000) (hk:k+8*m≤900000) (hE:E.length≤99000) :
  Calls prog 24 #[.pointer (some ⟨tb,0,none⟩)] w fun e w'=>∃ M',e=.returned (.tuple #[.int .i64 E.length,.int .i64 0])∧OneQ Q w' p tb N M' u pg (k+2*m) E∧Step M M' w w':=by
 obtain ⟨H,T,hT⟩:=h.tree;obtain ⟨h1,h2,h3,h4,h5⟩:=id hT;have AL:=Th (all_any h.pool h.at_ h.off h1 (by omega) (by omega) (by rw [h2];omega))
 have HH:=Th h;have H2:=Th h2;have HM:=Th (Zp h3 hm);clear h h1 h2 h3 h4 h5 hT
 go_enter func24,ntmps24
 go_upto_region 2 with (go_at_call 47;refine AL.out.mono ?_;rintro e w1 ⟨lv,pv,M1,Lt,rfl,hA⟩;obtain ⟨la,lc,rfl⟩:=Xac hA.lrow;have A1:=Th hA;clear hA)
 have hlen:Lt.length=E.length:=by have:=congrArg List.length A1.out.ents;rwa [Zl,H2.out] at this
 rw [hlen]
 go_wp2_with fail
 go_ret2;exact ⟨M1,rfl,(HH.out.step A1.out.pool A1.out.step).more (by have:=HM.out;omega),A1.out.step⟩
theorem OneQ.open_ (h:OneQ Q w p tb N M u pg k E) (hk:k≤900000) :
  Calls prog 12 #[.pointer (some ⟨p,0,none⟩),.int .i64 (0:Nat)] w fun e w'=>∃ tb' M',e=.returned (.tuple #[.pointer (some ⟨tb',0,none⟩),.int .i64 0])∧OneQ Q w' p tb' N M' u pg (k+2) E∧w.heap.size≤tb'∧Step M M' w w':=by
 obtain ⟨H,T,hT⟩:=h.tree
 refine (topen_any h.pool (by omega) hT.1).mono ?_
 rintro e w' ⟨tb',M',rfl,h1,h2,h3,h4,h5⟩;exact ⟨tb',M',rfl,⟨h4,h1,h2,h.tree,h.len⟩,h3,h5⟩
theorem OneQ.insertC (h:OneQ Q w p tb N M u pg k E) {x m:Nat} {kv:Value} {l:List UInt8} {c:Int} {E':List Pr} (hb:Xae w kv l) (hl:l.length≤300) (hx:x<18446744073709551616) (hq:Q (l,x)) (hQE:∀ e∈E,Q e)
  (hm:mostP (insP E (l,x))≤m) (hm1:m≤1000) (hN:3*m+5≤N) (hk:k+24*m+40≤900000) (hE:E.length≤99000)
  (hc:(if has E (l,x) then (81:Int) else 0)=c) (he:(if has E (l,x) then E else insP E (l,x))=E') :
  Calls prog 11 #[.pointer (some ⟨tb,0,none⟩),kv,.int .u64 x] w fun e w'=>∃ M' u' pg',e=.returned (.int .i64 c)∧OneQ Q w' p tb N M' u' pg' (k+(20*m+30)) E'∧Step M M' w w':=by
 have hm0:=Zp (Xfu (l:=E) (x:=(l,x))) hm;have hlen:=h.len
 refine (h.insertF (F0:=2*m+5) hb hl hx hq hQE hm0 hm hm1 (by omega) (by omega) hE (fun {H T} hT c0 i E0 W' F' hp hg hs=>?_) hc he).mono ?_
 ·have hfr:=hT.free
  have h3:=hT.2.2.1;have hH:=Xct hT.1.wf;have:=Xma hT.1 hl hx hp hs;omega
 ·rintro e w' ⟨M',u',pg',rfl,h1,h2⟩
  exact ⟨M',u',pg',rfl,h1.more (by omega),h2⟩
end
end T
namespace T
open Go Go.RowKit D B C G P H Go.Proofs.Tryz
structure MCur (w:World) (ck o:Nat) (cp fv lv:Value) (lx:Nat) (last:Pr) (begun:Bool):Prop where
 c0:w.cell? ⟨ck,o,none⟩=some cp
 c1:w.cell? ⟨ck,o+1,none⟩=some fv
 c2:w.cell? ⟨ck,o+2,none⟩=some lv
 c3:w.cell? ⟨ck,o+3,none⟩=some (.int .u64 lx)
 c4:w.cell? ⟨ck,o+4,none⟩=some (.bool begun)
 told:begun=true→lx=last.2∧Xae w lv last.1
 begins:begun=false→last.2=0∧Xae w fv last.1
theorem aft_new (last e:Pr) (h:last.2=0):aft last false e = !Op.bytesLess e.1 last.1:=by
 rw [Xmy];unfold aft;simp only [Bool.false_eq_true,if_false];congr 1;have:=lt_iff (a:=e) (b:=last);rw [decide_eq_decide,this,h]
 constructor
 ·rintro (h1 | ⟨_,h1⟩)
  ·exact h1
  ·exact absurd h1 (Nat.not_lt_zero _)
 ·exact .inl
theorem Xlu {E:List Pr} {last x:Pr} {begun:Bool} {i:Nat} (hi:E[i]?=some x) (ha:aft last begun x=true) (hb:∀ (j:Nat) (e:Pr),j<i→E[j]?=some e→aft last begun e=false):nextP E last begun=some x:=by
 unfold nextP;obtain ⟨h1,h2⟩:=Zh.1 hi;rw [List.find?_eq_some_iff_getElem];refine ⟨ha,i,h1,h2,fun j hj=>?_⟩;rw [hb j _ hj (Zc (by omega))];rfl
theorem Xog {w:World} {ck o lx:Nat} {v cp fv lv:Value} {L:List KV} {last:Pr} {begun:Bool} {r:Option Pr} (h:PrsAt w v L) (hM:MCur w ck o cp fv lv lx last begun) (hl:L.length≤1000000) (hr:nextP (L.map (·.2)) last begun=r) :
  Calls prog 25 #[.pointer (some ⟨ck,o,none⟩),v] w fun e w'=>Only [] w w' ∧
   ((r=none∧e=.returned (.tuple #[.agg #[.slice none 0 0,.int .u64 0],.bool false]))∨∃ kv x,r=some x∧(kv,x)∈L∧e=.returned (.tuple #[.agg #[kv,.int .u64 x.2],.bool true])):=by
 obtain ⟨⟨ao,cap,rfl,hcap,hrow⟩,hkeys⟩:=h;have ROW:=Th hrow;have KEYS:=Th hkeys;have HR:=Th hr;have HM:=Th hM;have IC:Hid ((prog.info? 43).map (·.size)=some 2):=Xbh;have UC:=underlying43;obtain ⟨n,hn⟩:∃ n,L.length=n:=⟨_,rfl⟩;have HN:=Th hn;rw [hn] at hl hcap;rw [hn];have BX:=Blk.new [.slice none 0 0,.int .u64 0] 43 w;obtain ⟨w0,hw0⟩:∃ w0,w.alloc (.cells #[.slice none 0 0,.int .u64 0] 43)=w0:=⟨_,rfl⟩;have HW0:=Th hw0
 have O0:Hid (Only [] w w0):=by show Only _ _ _;rw [←hw0];exact (Only.refl _ _).alloc _
 rw [show w.alloc (.cells [.slice none 0 0,.int .u64 0].toArray 43)=w0 from hw0] at BX;have BX:=Th BX;clear hrow hkeys hr hM hn hw0
 go_enter func25,ntmps25
 go_wp2_with fail
 rw [HW0.out]
 go_loopg [6] n (fun gk s6 wr=>∃ i:Nat,gk=n-i∧i≤n∧s6=.int .i64 i∧Only [] w0 wr∧∀ (j:Nat) (e:Pr),j<i→(L.map (·.2))[j]?=some e→aft last begun e=false)
 case atStart=>exact ⟨0,rfl,Yc _,rfl,Only.refl _ _,fun j e hj=>by omega⟩
 case round =>
  obtain ⟨i,hgk,hin,rfl,hO,hB⟩:=hrel;have HGK:=Th hgk;have OR:=Th hO;have HB:=Th hB;clear hgk hO hB;have OW:Hid (Only [] w wr):=O0.out.trans OR.out (by simp)
  by_cases hlt:i<n
  ·have hlt':(i:Int)<n:=by omega
   have hp:∃ q,L[i]?=some q:=⟨_,Zc (by rw [HN.out];exact hlt)⟩;obtain ⟨q,hq⟩:=hp;obtain ⟨g,og,rfl,hc⟩:=ROW.out (by have:=HN.out;omega)
   obtain ⟨c0,c1⟩:=hc i _ hq;have hby:=KEYS.out _ (Zm hq);obtain ⟨qa,qk,e1,_⟩:=id hby;rw [e1] at c0 hby
   have hE:(L.map (·.2))[i]?=some q.2:=by rw [Zr,hq];rfl
   have HE:=Th hE;have HQ:=Th hq;have HQ1:=Th e1;have c0':=OW.out.cell c0 (by simp);have c1':=OW.out.cell c1 (by simp)
   have l2:∀ y:Later wr,y.v.cell? ⟨g,og+i*2,none⟩=some (.slice qa q.2.1.length qk):=fun y=>y.cell c0'
   have l3:∀ y:Later wr,y.v.cell? ⟨g,og+i*2+1,none⟩=some (.int .u64 q.2.2):=fun y=>y.cell c1'
   have m4:=OW.out.cell HM.out.c4 (by simp)
   have k4:∀ y:Later wr,y.v.cell? ⟨ck,o+4,none⟩=some (.bool begun):=fun y=>y.cell m4
   clear c0 c1 hE hq e1 hc m4 c0' c1'
   cases hbg:begun with
   | true =>
    subst hbg;obtain ⟨hlx,hlb⟩:=HM.out.told rfl;subst hlx;obtain ⟨la,lk,hlv,_⟩:=id hlb;subst hlv;have m2:=OW.out.cell HM.out.c2 (by simp);have m3:=OW.out.cell HM.out.c3 (by simp)
    have k2:∀ y:Later wr,y.v.cell? ⟨ck,o+2,none⟩=some (.slice la last.1.length lk):=fun y=>y.cell m2
    have k3:∀ y:Later wr,y.v.cell? ⟨ck,o+3,none⟩=some (.int .u64 last.2):=fun y=>y.cell m3
    have CL:Hid (∀ y:Later wr,Calls prog 45 #[.agg #[.slice la last.1.length lk,.int .u64 last.2],.agg #[.slice qa q.2.1.length qk,.int .u64 q.2.2]] y.v fun e w'=>e=.returned (.bool (aft last true q.2))∧∃ z:Later wr,w'=z.v):=fun y =>
     Calls.later (fun w1 hO=>Xhj (p:=(.slice la last.1.length lk,last)) (q:=(.slice qa q.2.1.length qk,q.2)) (Xam hlb (OW.out.trans hO (by simp))) (Xam hby (OW.out.trans hO (by simp)))) y
    clear m2 m3 hlb hby
    cases hb:aft last true q.2 with
    | false =>
     rw [hb] at CL;have HAF:=Th hb;clear hb
     go_upto_region 4 with fail
     refine Xaa (Only.refl _ _) (by kernel_rfl) (by kernel_rfl) ?_
     repeat (go_big_quiet_step ((go_at_call 45;exact CL.out _)))
     refine wpQuiet_nil ?_
     rintro _ ⟨xq,rfl⟩
     go_wp2_with fail
     go_roundg (n-(i+1))
     case measure=>have:=HGK.out;omega
     case rel =>
      refine ⟨i+1,rfl,by omega,by go_num,OR.out.trans xq.h (by simp),fun j e hj he=>?_⟩
      by_cases hji:j=i
      ·subst hji
       rw [HE.out] at he;cases he;exact HAF.out
      ·exact HB.out j e (by omega) he
    | true =>
     rw [hb] at CL;have HAF:=Th hb;clear hb
     go_upto_region 4 with fail
     refine Xaa (Only.refl _ _) (by kernel_rfl) (by kernel_rfl) ?_
     repeat (go_big_quiet_step ((go_at_call 45;exact CL.out _)))
     refine wpQuiet_nil ?_
     rintro _ ⟨xq,rfl⟩;have BQ:=Th (xq.h.blk (OR.out.blk BX.out (by simp)) (by simp));have d0:=l2 xq;have d1:=l3 xq;clear l2 l3 k4 k2 k3
     go_wp2_with (refine Xak rfl 43 (.tmp 4) (.tmp 52) rfl w.heap.size [.slice qa q.2.1.length qk,.int .u64 q.2.2] rfl rfl BQ.out rfl IC.out (by intro u hu;simp at hu;rcases hu with rfl | rfl <;> rfl) ?_;intro w4 hb4 hO4;have B4:=Th hb4;have O4:=Th hO4;clear hb4 hO4)
     (try simp only [Exit.inBlock,Exit.then])
     refine bodyPost_ret (Xat rfl _ _ w.heap.size [.slice qa q.2.1.length qk,.int .u64 q.2.2] _ rfl B4.out UC rfl IC.out) rfl ?_
     refine ⟨((OW.out.trans xq.h (by simp)).trans O4.out (fun y hy=>by simp at hy;subst hy;exact .inr (Zq _))),.inr ⟨.slice qa q.2.1.length qk,q.2,?_,by rw [←HQ1.out];exact Zm HQ.out,rfl⟩⟩;rw [←HR.out];exact Xlu HE.out HAF.out HB.out
   | false =>
    subst hbg;obtain ⟨hl0,hfb⟩:=HM.out.begins rfl;obtain ⟨fa,fk,hfv,_⟩:=id hfb;subst hfv;have m1:=OW.out.cell HM.out.c1 (by simp)
    have k1:∀ y:Later wr,y.v.cell? ⟨ck,o+1,none⟩=some (.slice fa last.1.length fk):=fun y=>y.cell m1
    have s1:∀ y:Later wr,(convert 22 9 (.slice qa q.2.1.length qk)).run prog y.v=.ok (.string ⟨q.2.1.toArray⟩) y.v:=fun y=>Xbt (Xam hby (OW.out.trans y.h (by simp)))
    have s2:∀ y:Later wr,(convert 22 9 (.slice fa last.1.length fk)).run prog y.v=.ok (.string ⟨last.1.toArray⟩) y.v:=fun y=>Xbt (Xam hfb (OW.out.trans y.h (by simp)))
    have hag:=aft_new last q.2 hl0;clear m1 hby hfb
    cases hb:Op.bytesLess q.2.1 last.1 with
    | true =>
     rw [hb] at hag;have HAF:=Th hag;have hb2:=hb;clear hb hag
     go_upto_region 4 with fail
     refine Xaa (Only.refl _ _) (by kernel_rfl) (by kernel_rfl) ?_
     repeat (go_big_quiet_step (fail))
     refine wpQuiet_nil ?_
     rintro _ ⟨xq,rfl⟩;clear s1 s2
     go_wp2_with fail
     go_roundg (n-(i+1))
     case measure=>have:=HGK.out;omega
     case rel =>
      refine ⟨i+1,rfl,by omega,by go_num,OR.out.trans xq.h (by simp),fun j e hj he=>?_⟩
      by_cases hji:j=i
      ·subst hji
       rw [HE.out] at he;cases he;exact HAF.out
      ·exact HB.out j e (by omega) he
    | false =>
     rw [hb] at hag;have HAF:=Th hag;have hb2:=hb;clear hb hag
     go_upto_region 4 with fail
     refine Xaa (Only.refl _ _) (by kernel_rfl) (by kernel_rfl) ?_
     repeat (go_big_quiet_step (fail))
     refine wpQuiet_nil ?_
     rintro _ ⟨xq,rfl⟩;clear s1 s2;have BQ:=Th (xq.h.blk (OR.out.blk BX.out (by simp)) (by simp));have d0:=l2 xq;have d1:=l3 xq;clear l2 l3 k4 k1
     go_wp2_with (refine Xak rfl 43 (.tmp 4) (.tmp 52) rfl w.heap.size [.slice qa q.2.1.length qk,.int .u64 q.2.2] rfl rfl BQ.out rfl IC.out (by intro u hu;simp at hu;rcases hu with rfl | rfl <;> rfl) ?_;intro w4 hb4 hO4;have B4:=Th hb4;have O4:=Th hO4;clear hb4 hO4)
     (try simp only [Exit.inBlock,Exit.then])
     refine bodyPost_ret (Xat rfl _ _ w.heap.size [.slice qa q.2.1.length qk,.int .u64 q.2.2] _ rfl B4.out UC rfl IC.out) rfl ?_
     refine ⟨((OW.out.trans xq.h (by simp)).trans O4.out (fun y hy=>by simp at hy;subst hy;exact .inr (Zq _))),.inr ⟨.slice qa q.2.1.length qk,q.2,?_,by rw [←HQ1.out];exact Zm HQ.out,rfl⟩⟩;rw [←HR.out];exact Xlu HE.out HAF.out HB.out
  ·obtain rfl:i=n:=by omega
   have hnl:¬(i:Int)<i:=by omega
   have BQ:=Th (OR.out.blk BX.out (by simp))
   go_wp2_with (refine Xak rfl 43 (.tmp 4) (.tmp 53) rfl w.heap.size [.slice none 0 0,.int .u64 0] rfl rfl BQ.out rfl IC.out (by intro u hu;simp at hu;rcases hu with rfl | rfl <;> rfl) ?_;intro w4 hb4 hO4;have B4:=Th hb4;have O4:=Th hO4;clear hb4 hO4)
   (try simp only [Exit.inBlock,Exit.then])
   refine bodyPost_ret (Xat rfl _ _ w.heap.size [.slice none 0 0,.int .u64 0] _ rfl B4.out UC rfl IC.out) rfl ?_
   refine ⟨(OW.out.trans O4.out (fun y hy=>by simp at hy;subst hy;exact .inr (Zq _))),.inl ⟨?_,rfl⟩⟩;rw [←HR.out];unfold nextP;rw [Vb];intro e he;obtain ⟨j,hj,rfl⟩:=List.mem_iff_getElem.1 he;rw [HB.out j _ (by rw [Zl,HN.out] at hj;exact hj) (Zc hj)]
   simp
end T
namespace T
open Go Go.RowKit D B C G P H Go.Proofs.Tryz
structure CurJ (w:World) (M:List Nat) (ck tb i cb:Nat) (last:Pr) (begun:Bool) (kv fv lv:Value) (lx:Nat):Prop where
 mc:MCur w ck (i*5) (.pointer (some ⟨cb,0,none⟩)) fv lv lx last begun
 at_:CurAt w M cb tb kv last begun
 fk:begun=false→KeyOk w M (fv,last)
 lk:begun=true→KeyOk w M (lv,last)
structure PlR (w wr:World) (n tb ck:Nat) (M:List Nat) (v:Value) (L:List KV) (cbs:Nat→Nat):Prop where
 ent:EntR wr M v L
 step:Step [] M w wr
 new:∀ g,v.ownBlock=some g→w.heap.size≤g
 ckn:w.heap.size≤ck
 cko:ck∉M
 cblk:∃ cs,Blk wr ck cs 59∧cs.length=15
 curs:∀ i,i<n→∃ last begun kv fv lv lx,CurJ wr M ck tb i (cbs i) last begun kv fv lv lx
 dist:∀ i j,i<n→j<n→i≠j→cbs i≠cbs j
 cnew:∀ i,i<n→w.heap.size≤cbs i
section
variable {w wr w' : World} {n tb ck : Nat} {M M' : List Nat} {v v' : Value} {L L' : List KV} {cbs : Nat → Nat}
theorem MCur.same {w w':World} {ck o lx:Nat} {cp fv lv:Value} {last:Pr} {begun:Bool} (h:MCur w ck o cp fv lv lx last begun) (hc:∀ t,t<5→w'.cell? ⟨ck,o+t,none⟩=w.cell? ⟨ck,o+t,none⟩) (hl:begun=true→Xae w' lv last.1) (hf:begun=false→Xae w' fv last.1):MCur w' ck o cp fv lv lx last begun :=
 ⟨(hc 0 (by omega)).trans h.c0,(hc 1 (by omega)).trans h.c1,(hc 2 (by omega)).trans h.c2,(hc 3 (by omega)).trans h.c3,(hc 4 (by omega)).trans h.c4,fun hb=>⟨(h.told hb).1,hl hb⟩,fun hb=>⟨(h.begins hb).1,hf hb⟩⟩
theorem PlR.step_ (h:PlR w wr n tb ck M v L cbs) (hS:Step M M' wr w'):PlR w w' n tb ck M' v L cbs:=by
 obtain ⟨cs,hb,hl⟩:=h.cblk;have hb':=hS.1.blk hb h.cko;refine ⟨h.ent.step hS,h.step.trans hS,h.new,h.ckn,P.Step.keep hS hb.lt h.cko,⟨cs,hb',hl⟩,fun i hi=>?_,h.dist,h.cnew⟩;obtain ⟨last,begun,kv,fv,lv,lx,hc⟩:=h.curs i hi
 have hf:=fun hb=>(hc.fk hb).step hS
 have hl:=fun hb=>(hc.lk hb).step hS
 refine ⟨last,begun,kv,fv,lv,lx,hc.mc.same (fun t ht=>?_) (fun hb=>(hl hb).bytes) (fun hb=>(hf hb).bytes),hc.at_.step hS,hf,hl⟩;exact (hb'.cell _).trans (hb.cell _).symm
theorem PlR.past (h:PlR w wr n tb ck M v L cbs) (hO:Only [] wr w'):PlR w w' n tb ck M v L cbs:=h.step_ ((Step.refl M wr).then hO)
theorem PlR.rows (h:PlR w wr n tb ck M v L cbs) {Q:Pr→Prop} {p N k:Nat} {u:List Bool} {pg:Nat→List UInt8} {E:List Pr} (h1:OneQ Q wr p tb N M u pg k E) {G:List Nat} (hO:Only (v.ownBlock.toList++G) wr w') (hG:∀ g∈G,v.ownBlock=some g∨wr.heap.size≤g)
  (hl:∀ g,v'.ownBlock=some g→v.ownBlock=some g∨wr.heap.size≤g) (hk:∀ y∈L',y∈L∨KeyOk wr M y) (hrow:RowOn w' 43 2 v' L'.length (kvsC L')):PlR w w' n tb ck M v' L' cbs∧OneQ Q w' p tb N M u pg k E:=by
 have he:=h.ent
 have hX:∀ x∈v.ownBlock.toList,∃ cs,Blk wr x cs 43:=fun x hx=>by
  have hx:v.ownBlock=some x:=by simpa using hx
  rcases he.row.2 with ⟨rfl,_⟩ | ⟨g',cap,cur,rfl,hb,_⟩
  ·cases hx
  ·simp only [Value.ownBlock,Zw] at hx
   subst hx;exact ⟨_,hb⟩
 have hXO:Only v.ownBlock.toList wr w':=hO.mono (fun x hx=>by
  rcases Za.1 hx with hx | hx
  ·exact .inl hx
  ·exact (hG x hx).imp (by simp) id)
 obtain ⟨hns,hoff⟩:=row_noSec hX
 have hgM:∀ x∈v.ownBlock.toList,x∉M:=fun x hx=>he.off x (by simpa using hx)
 have hty:∀ {b:Nat} {cs:List Value} {t:TypeId},Blk wr b cs t→t≠43→b∉v.ownBlock.toList:=fun hb ht hm=>by
  obtain ⟨_,hb5⟩:=hX _ hm;exact ht (hb.inj hb5).2
 refine ⟨⟨⟨hrow,fun y hy=>?_,fun g hg hm=>?_⟩,⟨h.step.1.trans hO (fun x hx=>.inr ?_),h.step.2⟩,fun g hg=>?_,h.ckn,h.cko,?_,fun i hi=>?_,h.dist,h.cnew⟩,h1.later hXO hns (fun x hx hx2=>hgM x hx2 hx) (hty h1.at_ (by decide))⟩
 ·refine KeyOk.later (w:=wr) ?_ hXO hoff
  exact (hk y hy).elim (he.keys y) id
 ·rcases hl g hg with h5 | h5
  ·exact he.off g h5 hm
  ·have:=h1.pool.lt _ hm;omega
 ·rcases Za.1 hx with hx | hx
  ·exact h.new x (by simpa using hx)
  ·rcases hG x hx with h5 | h5
   ·exact h.new x h5
   ·have:=h.step.1.size;omega
 ·rcases hl g hg with h5 | h5
  ·exact h.new g h5
  ·have:=h.step.1.size;omega
 ·obtain ⟨cs,hb,hcl⟩:=h.cblk
  exact ⟨cs,hXO.blk hb (hty hb (by decide)),hcl⟩
 ·obtain ⟨last,begun,kv,fv,lv,lx,hc⟩:=h.curs i hi
  obtain ⟨cs,hb,hcl⟩:=h.cblk;have hb':=hXO.blk hb (hty hb (by decide))
  have hf:=fun hb=>(hc.fk hb).later hXO hoff
  have hl:=fun hb=>(hc.lk hb).later hXO hoff
  exact ⟨last,begun,kv,fv,lv,lx,hc.mc.same (fun t ht=>(hb'.cell _).trans (hb.cell _).symm) (fun hb=>(hl hb).bytes) (fun hb=>(hf hb).bytes),⟨hXO.blk hc.at_.blk (hty hc.at_.blk (by decide)),hc.at_.key.later hXO hoff,hc.at_.off⟩,hf,hl⟩
theorem PlR.turn (h:PlR w wr n tb ck M v L cbs) {X:List Nat} {i n' cb':Nat} (hO:Only (M++X) wr w') (hm:∀ x∈M',x∈M∨wr.heap.size≤x) (hX:∀ x∈X,w.heap.size≤x∧((∃ cs,Blk wr x cs 59)∨∃ cs,Blk wr x cs 98)) (hXo:∀ j,j<n→j≠i→cbs j∉X)
  (hb:∃ cs,Blk w' ck cs 59∧cs.length=15) (hcell:∀ j,j<n→j≠i→∀ t,t<5→w'.cell? ⟨ck,j*5+t,none⟩=wr.cell? ⟨ck,j*5+t,none⟩)
  (hc:∃ last begun kv fv lv lx,CurJ w' M' ck tb i cb' last begun kv fv lv lx) (hcb:(∀ j,j<n→j≠i→cbs j≠cb')) (hcn:w.heap.size≤cb') (hn:∀ j,j<n'→j=i∨j<n) :
  PlR w w' n' tb ck M' v L (fun j=>if j=i then cb' else cbs j):=by
 have hbyte:∀ g cs,Blk wr g cs 5→g∉X:=fun g cs hb hg=>by
  rcases (hX g hg).2 with ⟨cs2,h2⟩ | ⟨cs2,h2⟩
  ·exact absurd (hb.inj h2).2 (by decide)
  ·exact absurd (hb.inj h2).2 (by decide)
 have hkey:∀ {q:KV},KeyOk wr M q→KeyOk w' M' q:=fun hq=>hq.over hO (fun g hg=>by obtain ⟨_,cs,hb⟩:=hq.blk g hg;exact hbyte g cs hb) hm
 have hckb:=h.cblk;refine ⟨h.ent.over hO hbyte (fun g hg hg2=>?_) hm,⟨h.step.1.trans hO (fun y hy=>?_),fun y hy=>?_⟩,h.new,h.ckn,fun hm2=>?_,hb,fun j hj=>?_,fun a b ha hb hab=>?_,fun j hj=>?_⟩
 ·rcases (hX g hg2).2 with ⟨cs2,h2⟩ | ⟨cs2,h2⟩
  ·exact absurd hg (h.ent.row.ne h2 (by decide))
  ·exact absurd hg (h.ent.row.ne h2 (by decide))
 ·rcases Za.1 hy with h2 | h2
  ·exact h.step.2 y h2
  ·exact .inr (hX y h2).1
 ·rcases hm y hy with h2 | h2
  ·exact h.step.2 y h2
  ·exact .inr (Zp h.step.1.size h2)
 ·obtain ⟨cs,hb0,_⟩:=hckb
  rcases hm _ hm2 with h2 | h2
  ·exact h.cko h2
  ·have:=hb0.lt;omega
 ·by_cases hji:j=i
  ·rw [if_pos hji,hji];exact hc
  ·rw [if_neg hji]
   have hjn:=(hn j hj).resolve_left hji;obtain ⟨last,begun,kv,fv,lv,lx,hc⟩:=h.curs j hjn;exact ⟨last,begun,kv,fv,lv,lx,hc.mc.same (hcell j hjn hji) (fun hb=>(hkey (hc.lk hb)).bytes) (fun hb=>(hkey (hc.fk hb)).bytes),hc.at_.over hO (fun g hg=>by obtain ⟨_,cs,hb⟩:=hc.at_.key.blk g hg;exact hbyte g cs hb) (hXo j hjn hji) hm,fun hb=>hkey (hc.fk hb),fun hb=>hkey (hc.lk hb)⟩
 ·by_cases h1:a=i
  ·rw [if_pos h1]
   by_cases h2:b=i
   ·exact absurd (h1.trans h2.symm) hab
   ·rw [if_neg h2]
    exact fun e=>hcb b ((hn b hb).resolve_left h2) h2 e.symm
  ·rw [if_neg h1]
   by_cases h2:b=i
   ·rw [if_pos h2]
    exact hcb a ((hn a ha).resolve_left h1) h1
   ·rw [if_neg h2]
    exact h.dist a b ((hn a ha).resolve_left h1) ((hn b hb).resolve_left h2) hab
 ·by_cases h1:j=i
  ·rw [if_pos h1];exact hcn
  ·rw [if_neg h1];exact h.cnew j ((hn j hj).resolve_left h1)
theorem PlR.none_ (h:PlR w wr n tb ck M v L cbs) (tb':Nat):PlR w wr 0 tb' ck M v L cbs:=⟨h.ent,h.step,h.new,h.ckn,h.cko,h.cblk,fun i hi=>by omega,fun i j hi=>by omega,fun i hi=>by omega⟩
end
end T
namespace T
open Go Go.RowKit D B C G P H Go.Proofs.Tryz
theorem KeyOk.nil (w:World) (M:List Nat):KeyOk w M (.slice none 0 0,([],0)) :=
 ⟨⟨none,0,rfl,fun h=>by simp at h⟩,fun ao n c e=>by injection e with _ e2 e3;omega,fun g hg=>(by cases hg),by show (0:Nat)<_;decide⟩
def mcurC (cp fv lv:Value) (lx:Nat) (told:Bool):List Value:=[cp,fv,lv,.int .u64 lx,.bool told]
def mcurZ : List Value:=mcurC (.pointer none) (.slice none 0 0) (.slice none 0 0) 0 false++mcurC (.pointer none) (.slice none 0 0) (.slice none 0 0) 0 false++mcurC (.pointer none) (.slice none 0 0) (.slice none 0 0) 0 false
theorem make_mcur (w:World):(Instr.makeSlice 57 (.int .i64 3) (.int .i64 3)).run prog w=.ok (.slice (some ⟨w.heap.size,0,none⟩) 3 3) (w.alloc (.cells mcurZ.toArray 59)):=by
 have hi:∃ i,prog.info? 59=some i∧i.zero=some (.agg #[.pointer none,.slice none 0 0,.slice none 0 0,.int .u64 0,.bool false])∧i.size=5∧i.bytes=72:=info_parts (by kernel_rfl);obtain ⟨i,hi,hz0,hz1,hz2⟩:=hi;have hr:=run_make (P:=prog) w 57 59 i (.agg #[.pointer none,.slice none 0 0,.slice none 0 0,.int .u64 0,.bool false]) underlying57 hi hz0 .i64 .i64 3 3 (by omega) (by omega) (by rw [hz2];omega) (by omega)
 have e:madeCells (Value.agg #[.pointer none,.slice none 0 0,.slice none 0 0,.int .u64 0,.bool false]).cells (Int.toNat 3*5)=mcurZ.toArray:=by kernel_rfl
 rw [hr,hz1,e];rfl
theorem mcurZ_get (x:Value) {j t:Nat} (hj:j<3) (h1:1≤t) (ht:t<5):mcurZ[j*5+t]?=(mcurC x (.slice none 0 0) (.slice none 0 0) 0 false)[t]?:=by
 obtain rfl | rfl | rfl | rfl:t=1∨t=2∨t=3∨t=4:=by omega
 all_goals (obtain rfl | rfl | rfl:j=0∨j=1∨j=2:=by omega) <;> rfl
section
variable {w wr w' : World} {n tb ck : Nat} {M : List Nat} {v : Value} {L : List KV} {cbs : Nat → Nat}
theorem ck_noSec {X:List Nat} (h:∃ cs,Blk wr ck cs 59):NoSec wr [ck]:=fun x hx cs hb=>by
 simp at hx;subst hx
 obtain ⟨cs2,hb2⟩:=h;exact absurd (hb.inj hb2).2 (by decide)
theorem OneQ.wrote {Q:Pr→Prop} {p N k:Nat} {u:List Bool} {pg:Nat→List UInt8} {E:List Pr} (h:OneQ Q wr p tb N M u pg k E) (hO:Only [ck] wr w') (hb:∃ cs,Blk wr ck cs 59) (hc:ck∉M):OneQ Q w' p tb N M u pg k E :=
 h.later hO (ck_noSec (X:=[]) hb) (fun x hx h2=>by simp at h2;subst h2;exact hc hx) (fun h2=>by
  simp at h2;obtain ⟨_,hb2⟩:=hb;rw [←h2] at hb2
  exact absurd (h.at_.inj hb2).2 (by decide))
theorem KeyOk.wrote {q:KV} (h:KeyOk wr M q) (hO:Only [ck] wr w') (hb:∃ cs,Blk wr ck cs 59):KeyOk w' M q:=h.later hO (fun x hx cs hb2=>by
 simp at hx;subst hx
 obtain ⟨cs3,hb3⟩:=hb
 exact absurd (hb2.inj hb3).2 (by decide))
theorem CurAt.wrote {cb:Nat} {kv:Value} {last:Pr} {begun:Bool} (h:CurAt wr M cb tb kv last begun) (hO:Only [ck] wr w') (hb:∃ cs,Blk wr ck cs 59):CurAt w' M cb tb kv last begun :=
 ⟨hO.blk h.blk (fun hm=>by
  simp at hm;obtain ⟨_,hb2⟩:=hb;rw [←hm] at hb2
  exact absurd (h.blk.inj hb2).2 (by decide)),h.key.wrote hO hb,h.off⟩
theorem PlR.sought (h:PlR w wr n tb ck M v L cbs) {i n' cb lx:Nat} {fv lv kv:Value} {last:Pr} {cs cs':List Value} (hO:Only [ck] wr w') (hb:Blk wr ck cs 59) (hb':Blk w' ck cs' 59) (hl':cs'.length=15)
  (hi:∀ t,t<5→cs'[i*5+t]?=(mcurC (.pointer (some ⟨cb,0,none⟩)) fv lv lx false)[t]?) (ho:∀ j t,j<n→j≠i→t<5→cs'[j*5+t]?=cs[j*5+t]?)
  (hC:CurAt w' M cb tb kv last false) (h0:last.2=0) (hf:KeyOk w' M (fv,last)) (hcb:wr.heap.size≤cb) (hn:∀ j,j<n'→j=i∨j<n):PlR w w' n' tb ck M v L (fun j=>if j=i then cb else cbs j):=by
 refine h.turn (X:=[ck]) (hO.mono (fun x hx=>.inl (Za.2 (.inr hx)))) (fun x hx=>.inl hx) (fun x hx=>?_) (fun j hj hji hm=>?_) ⟨cs',hb',hl'⟩ (fun j hj hji t ht=>?_) ⟨last,false,kv,fv,lv,lx,⟨?_,?_,?_,?_,?_,fun hb=>(by cases hb),fun _=>⟨h0,hf.bytes⟩⟩,hC,fun _=>hf,fun hb=>(by cases hb)⟩ (fun j hj hji e=>?_) ?_ hn
 ·simp at hx;subst hx
  exact ⟨h.ckn,.inl ⟨cs,hb⟩⟩
 ·simp at hm
  obtain ⟨last,begun,kv,fv,lv,lx,hc⟩:=h.curs j hj;have hb3:=hc.at_.blk;rw [hm] at hb3;exact absurd (hb.inj hb3).2 (by decide)
 ·rw [hb'.cell,hb.cell];exact ho j t hj hji ht
 ·exact (hb'.cell _).trans (hi 0 (by omega))
 ·exact (hb'.cell _).trans (hi 1 (by omega))
 ·exact (hb'.cell _).trans (hi 2 (by omega))
 ·exact (hb'.cell _).trans (hi 3 (by omega))
 ·exact (hb'.cell _).trans (hi 4 (by omega))
 ·obtain ⟨last,begun,kv,fv,lv,lx,hc⟩:=h.curs j hj
  have:=hc.at_.blk.lt;omega
 ·have:=h.step.1.size;omega
end
theorem Xiy {w w':World} {ao:Option Addr} {cap:Nat} {l:List UInt8} (h:Xae w (.slice ao l.length cap) l) (hO:Only [] w w'):0<l.length→∃ ad,ao=some ad∧∀ j u,(u8s l)[j]?=some u→w'.cell? (ad.add j)=some u:=fun h0=>by
 obtain ⟨ao2,cap2,he,hc⟩:=Xam h hO
 injection he with e1 e2 e3
 subst e1;obtain ⟨b,o,rfl,hc2⟩:=hc h0;exact ⟨_,rfl,B.src_cells hc2⟩
theorem Xja {w w':World} {v':Value} {l:List UInt8} (hg:Grew w w' 5 1 (.slice none 0 0) v' (0+l.length) ([]++u8s l)):B.Own w w' v' l:=by
 have h1:Grew w w' 5 1 (.slice none 0 0) v' (0+l.length) (u8s l):=hg;exact ⟨h1.row,fun k hk=>(hg.lies k hk).resolve_left (by simp [Value.ownBlock]),hg.only⟩
def costP (i:Nat):Nat:=4+1912*i+3*(i*i)
theorem Xbp (i:Nat):costP (i+1)=costP i+1915+6*i:=by
 unfold costP
 have:(i+1)*(i+1)=i*i+2*i+1:=by rw [Nat.add_mul,Nat.mul_add];omega
 omega
theorem Xdq {i:Nat} (h:i≤300):costP i≤843604:=by
 unfold costP;have:i*i≤300*300:=Nat.mul_le_mul h h;omega
structure PlJ (w wr:World) (p ck:Nat) (l:List StepD) (i tb:Nat) (M:List Nat) (u:List Bool) (pg:Nat→List UInt8) (v:Value) (L:List KV) (cbs:Nat→Nat):Prop where
 one:OneQ (fun _=>True) wr p tb 600 M u pg (costP i) (L.map (·.2))
 rest:PlR w wr 3 tb ck M v L cbs
 len:L.length≤i
 bulk:lenE (L.map (·.2))≤sumF l i
theorem sumF_mono (l:List StepD) {i j:Nat} (h:i≤j):sumF l i≤sumF l j:=by
 induction h with
 | refl=>exact Zq _
 | step _ ih=>exact Zp ih (Nat.le_add_right _ _)
theorem Xkd {E:List Pr} {i:Nat} (h1:E.length≤i) (h2:lenE E≤9000):mostP E≤94+i / 4:=by
 unfold mostP;have h3:lenE E / 100≤90:=Zp (Nat.div_le_div_right h2) (by decide);have h4:E.length / 4≤i / 4:=Nat.div_le_div_right h1
 split <;> omega
end T
namespace T
open Go Go.RowKit D B C G P H Go.Proofs.Tryz
theorem bytes_noSec {w:World} {v:Value} {l:List UInt8} (h:Xau 5 w v l):NoSec w v.ownBlock.toList:=fun x hx cs hb=>by
 obtain ⟨cs2,hb2⟩:=Xag h (Zk.1 hx);exact absurd (hb.inj hb2).2 (by decide)
section
variable {Q : Pr → Prop} {w wa wb wr w1 w2 w3 w7 w8 w9 : World} {p tb N k n ck : Nat} {M M' : List Nat} {u : List Bool} {pg : Nat → List UInt8} {E : List Pr} {lv v v' : Value} {l : List UInt8} {L : List KV} {cbs : Nat → Nat}
theorem Xmx (ho:B.Own wa wb lv l) (hM:∀ y∈M,y<wa.heap.size) (hS:Step M M' wb w7):Xau 5 w7 lv l :=
 Xab ho.1 hS.1 (fun g hg hm=>by have:=hM g hm;have:=ho.2.1 g hg;omega)
theorem OneQ.lent (h:OneQ Q w7 p tb N M' u pg k E) (ho:B.Own wa wb lv l) (hM:∀ y∈M,y<wa.heap.size) (hS:Step M M' wb w7) (hO:Only lv.ownBlock.toList w7 w8):OneQ Q w8 p tb N M' u pg k E∧Step M M' wa w8:=by
 have hr7:=Xmx ho hM hS;obtain ⟨hr,hn,h0⟩:=ho
 have hMl:∀ g,lv.ownBlock=some g→g∉M':=fun g hg=>by
  obtain ⟨cs,hb⟩:=Xag hr hg;exact P.Step.keep hS hb.lt (fun hm=>by have:=hM g hm;have:=hn g hg;omega)
 refine ⟨h.later hO (bytes_noSec hr7) (fun x hx h2=>hMl x (Zk.1 h2) hx) (fun h2=>?_),⟨((h0.mono (M':=M) (by simp)).trans hS.1 (fun x hx=>.inl hx)).trans hO (fun x hx=>.inr (hn x (Zk.1 hx))),fun y hy=>(hS.2 y hy).imp id (Zp h0.size)⟩⟩;obtain ⟨cs,hb⟩:=Xag hr7 (Zk.1 h2);exact absurd (h.at_.inj hb).2 (by decide)
theorem PlR.inserted (h:PlR w w1 n tb ck M v L cbs) (h1:OneQ Q w1 p tb N M u pg k E) {q:KV} {j g:Nat} (hk:KeyOk w1 M q)
  (hO:Only v.ownBlock.toList w1 w2) (hl:v.ownBlock=some g∨w1.heap.size≤g) (hO3:Only [g] w2 w3) (hv:v'.ownBlock=some g)
  (hj:low (L.map (·.2)) q.2=j) (hrow:RowOn w3 43 2 v' (L.length+1) (kvsC (L.take j++q :: L.drop j))) :
  PlR w w3 n tb ck M v' (L.take j++q :: L.drop j) cbs∧OneQ Q w3 p tb N M u pg k E:=by
 have hlen:(L.take j++q :: L.drop j).length=L.length+1:=by
  have:=Xet (L.map (·.2)) q.2;rw [Zl,hj] at this
  rw [Ze,Zz,Zj,Zy];omega
 refine h.rows (G:=[g]) h1 ((hO.mono (fun x hx=>.inl (by simp at hx;simp [hx]))).trans hO3 (fun x hx=>.inl (by simp at hx;simp [hx]))) (fun x hx=>by simp at hx;subst hx;exact hl) (fun x hx=>by rw [hv] at hx;injection hx with hx;subst hx;exact hl) (fun y hy=>?_) (by rw [hlen];exact hrow)
 rcases Za.1 hy with hy | hy
 ·exact .inl (Yn hy)
 ·rcases Zg.1 hy with rfl | hy
  ·exact .inr hk
  ·exact .inl (Ys hy)
theorem PlR.nexted (h:PlR w wr n tb ck M v L cbs) {i cb:Nat} {kv' rv fv:Value} {x:Pr} {cs:List Value} (hi:i<n) (hcb:cbs i=cb) (h7:OneQ Q w7 p tb N M' u pg k E) (hC:CurAt w7 M' cb tb kv' x true) (hO7:Only (M++[cb]) wr w7) (hm:∀ x∈M',x∈M∨wr.heap.size≤x)
  (hr:KeyOk w7 M' (rv,x)) (hrn:∀ g,rv.ownBlock=some g→wr.heap.size≤g) (hrk:∀ g,rv.ownBlock=some g→kv'.ownBlock≠some g) (hO9:Only (ck :: rv.ownBlock.toList) w7 w9)
  (hb:Blk wr ck cs 59) (hl:cs.length=15) (hi3:i<3) (hb9:Blk w9 ck (((cs.set (i*5+2) fv).set (i*5+3) (.int .u64 x.2)).set (i*5+4) (.bool true)) 59) (hL:(fv,x)∈L) :
  PlR w w9 n tb ck M' v L (fun j=>if j=i then cb else cbs j)∧OneQ Q w9 p tb N M' u pg k E:=by
 obtain ⟨last,begun,kv,fv0,lv0,lx0,hc⟩:=h.curs i hi;rw [hcb] at hc;have hcw:=hc.at_.blk
 have hkc:ck≠cb:=fun e=>by subst e;exact absurd (hb.inj hcw).2 (by decide)
 have hck7:Blk w7 ck cs 59:=hO7.blk hb (fun hx=>by
  rcases Za.1 hx with h2 | h2
  ·exact h.cko h2
  ·exact hkc (by simpa using h2))
 have hrb:∀ g,rv.ownBlock=some g→g∉M'∧∃ cs,Blk w7 g cs 5:=hr.blk
 have hO:Only (M++[cb,ck]) wr w9:=(hO7.mono (M':=M++[cb,ck]) (fun x hx=>.inl (by
  rcases Za.1 hx with h2 | h2
  ·exact Za.2 (.inl h2)
  ·exact Za.2 (.inr (by simp at h2;simp [h2]))))).trans hO9 (fun y hy=>by
  rcases Zg.1 hy with rfl | h2
  ·exact .inl (by simp)
  ·exact .inr (hrn y (Zk.1 h2)))
 have hX:∀ x∈[cb,ck],w.heap.size≤x∧((∃ cs,Blk wr x cs 59)∨∃ cs,Blk wr x cs 98):=fun x hx=>by
  simp at hx
  rcases hx with rfl | rfl
  ·exact ⟨hcb ▸ h.cnew i hi,.inr ⟨_,hcw⟩⟩
  ·exact ⟨h.ckn,.inl ⟨_,hb⟩⟩
 have hcur:∀ t,w9.cell? ⟨ck,i*5+t,none⟩=(((cs.set (i*5+2) fv).set (i*5+3) (.int .u64 x.2)).set (i*5+4) (.bool true))[i*5+t]?:=fun t=>hb9.cell _
 have hkey:KeyOk wr M (fv,x):=h.ent.keys _ hL
 have hkey9:KeyOk w9 M' (fv,x):=hkey.over hO (fun g hg h2=>by
  obtain ⟨_,cs2,hb2⟩:=hkey.blk g hg
  rcases (hX g h2).2 with ⟨cs3,hb3⟩ | ⟨cs3,hb3⟩
  ·exact absurd (hb2.inj hb3).2 (by decide)
  ·exact absurd (hb2.inj hb3).2 (by decide)) hm
 refine ⟨h.turn (X:=[cb,ck]) hO hm hX (fun j hj hji h2=>?_) ⟨_,hb9,by simp [hl]⟩ (fun j hj hji t ht=>?_) ⟨x,true,kv',fv0,fv,x.2,⟨?_,?_,?_,?_,?_,fun _=>⟨rfl,hkey9.bytes⟩,fun h=>(by cases h)⟩,?_,fun h=>(by cases h),fun _=>hkey9⟩ (fun j hj hji=>?_) (hcb ▸ h.cnew i hi) (fun j hj=>.inr hj),?_⟩
 ·simp at h2
  rcases h2 with h2 | h2
  ·exact h.dist j i hj hi hji (h2.trans hcb.symm)
  ·obtain ⟨_,_,_,_,_,_,hc2⟩:=h.curs j hj
   have hb2:=hc2.at_.blk;rw [h2] at hb2;exact absurd (hb.inj hb2).2 (by decide)
 ·rw [hb9.cell,hb.cell,Zv (by omega),Zv (by omega),Zv (by omega)]
 ·have:=hc.mc.c0
  rw [hb.cell] at this;have h9:=hcur 0;rw [Zv (by omega),Zv (by omega),Zv (by omega)] at h9;exact h9.trans this
 ·have:=hc.mc.c1
  rw [hb.cell] at this;rw [hcur 1,Zv (by omega),Zv (by omega),Zv (by omega)];exact this
 ·rw [hcur 2,Zv (by omega),Zv (by omega),Yr (by omega)]
 ·rw [hcur 3,Zv (by omega),Yr (by simp;omega)]
 ·rw [hcur 4,Yr (by simp;omega)]
 ·refine hC.over (X:=ck :: rv.ownBlock.toList) (hO9.mono (fun x hx=>.inl (Za.2 (.inr hx)))) (fun g hg h2=>?_) (fun h2=>?_) (fun x hx=>.inl hx)
  ·obtain ⟨_,cs2,hb2⟩:=hC.key.blk g hg
   rcases Zg.1 h2 with rfl | h2
   ·exact absurd (hb2.inj hck7).2 (by decide)
   ·exact hrk g (Zk.1 h2) hg
  ·rcases Zg.1 h2 with h2 | h2
   ·exact hkc h2.symm
   ·obtain ⟨_,cs2,hb2⟩:=hrb cb (Zk.1 h2)
    exact absurd (hC.blk.inj hb2).2 (by decide)
 ·exact fun e=>h.dist j i hj hi hji (e.trans hcb.symm)
 ·refine h7.later hO9 (fun y hy cs2 hb2=>?_) (fun y hy h2=>?_) (fun h2=>?_)
  ·rcases Zg.1 hy with rfl | h3
   ·exact absurd (hb2.inj hck7).2 (by decide)
   ·obtain ⟨_,cs3,hb3⟩:=hrb y (Zk.1 h3)
    exact absurd (hb2.inj hb3).2 (by decide)
  ·rcases Zg.1 h2 with rfl | h3
   ·rcases hm _ hy with h4 | h4
    ·exact h.cko h4
    ·have:=hb.lt;omega
   ·exact (hrb y (Zk.1 h3)).1 hy
  ·rcases Zg.1 h2 with h3 | h3
   ·rw [←h3] at hck7
    exact absurd (hck7.inj h7.at_).2 (by decide)
   ·obtain ⟨_,cs3,hb3⟩:=hrb tb (Zk.1 h3)
    exact absurd (h7.at_.inj hb3).2 (by decide)
end
theorem spoil_key {w:World} {M:List Nat} {v:Value} {e:Pr} (h:KeyOk w M (v,e)) (hl:e.1.length≤1048576) :
  Calls prog 23 #[v] w fun e w'=>e=.returned (.tuple #[])∧Only v.ownBlock.toList w w':=by
 obtain ⟨ao,cap,hv,hc⟩:=h.bytes;dsimp only at hv hc;subst hv
 rcases Wo e.1.length with h0 | h0
 ·rw [h0]
  refine (Xpp ao cap).mono ?_
  rintro e2 w' ⟨he,rfl⟩;exact ⟨he,Only.refl _ _⟩
 ·obtain ⟨g,o,rfl,hcell⟩:=hc h0
  obtain ⟨_,cs,hb⟩:=h.blk g rfl
  have hn:o+e.1.length≤cs.length:=by
   have h1:=hcell (e.1.length-1) (by omega);rw [hb.cell] at h1;have:=(Zh.1 h1).1;omega
  refine (Xpo hb hn hl).mono ?_
  rintro e2 w' ⟨he,hO⟩;exact ⟨he,by simpa [Value.ownBlock] using hO⟩
theorem low_has {E:List Pr} {x:Pr} (hE:Up E) (h:has E x=true):E[low E x]?=some x:=by
 obtain ⟨i,hi,he⟩:=List.mem_iff_getElem.1 ((Xjy hE).1 h)
 have h1:E[i]?=some x:=by rw [Zc hi,he]
 rw [(low_at hE h1).1];exact h1
section
variable {w wa wb wc wd we wf wg wr w' : World} {p tb n ck : Nat} {M M' : List Nat} {u : List Bool} {pg : Nat → List UInt8} {lv v : Value} {l : List UInt8} {L : List KV} {cbs : Nat → Nat}
theorem PlR.soughtL (h:PlR w wa n tb ck M v L cbs) (hM:∀ y∈M,y<wa.heap.size) (ho:B.Own wa wb lv l) {i cb:Nat} {kv' fv:Value} {cs:List Value} (hOc:Only [] wb wc) (hC:CurAt wc M cb tb kv' (l,0) false) (hcb:wb.heap.size≤cb) (hkn:∀ g,kv'.ownBlock=some g→wb.heap.size≤g)
  (hd:Only [ck] wc wd) (hf:B.Own wd we fv l) (hg:Only [ck] we wf) (hsp:Only lv.ownBlock.toList wf wg) (hb:Blk wa ck cs 59) (hl:cs.length=15) (hi:i<n) (hi3:i<3)
  (hbf:Blk wf ck (((cs.set (i*5) (.pointer (some ⟨cb,0,none⟩))).set (i*5+1) fv).set (i*5+4) (.bool false)) 59):PlR w wg n tb ck M v L (fun j=>if j=i then cb else cbs j)∧Only [ck] wa wg:=by
 obtain ⟨last,begun,kv,fv0,lv0,lx0,hc⟩:=h.curs i hi;have s1:=ho.2.2.size;have s2:=hOc.size;have s3:=hd.size;have s4:=hf.2.2.size;have s5:=hg.size;have hckl:=hb.lt
 have hl2:∀ g,lv.ownBlock=some g→wa.heap.size≤g∧g<wb.heap.size:=fun g hg=>by
  obtain ⟨cs2,hb2⟩:=Xag ho.1 hg;exact ⟨ho.2.1 g hg,hb2.lt⟩
 have hO:Only [ck] wa wg:=(((((ho.2.2.trans hOc (by simp)).mono (M':=[ck]) (by simp)).trans hd (fun x hx=>.inl hx)).trans (hf.2.2.mono (M':=[ck]) (by simp)) (fun x hx=>.inl hx)).trans hg (fun x hx=>.inl hx)).trans hsp (fun x hx=>.inr (hl2 x (Zk.1 hx)).1);have hbg:Blk wg ck _ 59:=hsp.blk hbf (fun hm=>by have:=(hl2 ck (Zk.1 hm)).1;omega)
 have hcg:Only (M++ck :: lv.ownBlock.toList) wc wg:=((((hd.trans (hf.2.2.mono (M':=[ck]) (by simp)) (fun x hx=>.inl hx)).trans hg (fun x hx=>.inl hx)).mono (M':=M++ck :: lv.ownBlock.toList) (fun x hx=>.inl (by simp at hx;simp [hx]))).trans hsp (fun x hx=>.inl (by simp at hx;simp [hx])));have heg:Only (M++ck :: lv.ownBlock.toList) we wg:=(hg.mono (M':=M++ck :: lv.ownBlock.toList) (fun x hx=>.inl (by simp at hx;simp [hx]))).trans hsp (fun x hx=>.inl (by simp at hx;simp [hx]))
 have hX:∀ g,wb.heap.size≤g→g∉ck :: lv.ownBlock.toList:=fun g hg hm=>by
  rcases Zg.1 hm with h1 | h1
  ·omega
  ·have:=(hl2 g (Zk.1 h1)).2;omega
 have hcell:∀ t,cs[i*5+t]?=wa.cell? ⟨ck,i*5+t,none⟩:=fun t=>(hb.cell _).symm
 refine ⟨h.sought (i:=i) (fv:=fv) (lv:=lv0) (lx:=lx0) (kv:=kv') (last:=(l,0)) hO hb hbg (by simp [hl]) (fun t ht=>?_) (fun j t hj hji ht=>?_) (hC.over hcg (fun g hg=>hX g (hkn g hg)) (hX cb hcb) (fun x hx=>.inl hx)) rfl ((Xgv hf (fun y hy=>by have:=hM y hy;omega) (by decide:(0:Nat)<18446744073709551616)).over heg (fun g hg=>hX g (by have:=hf.2.1 g hg;omega)) (fun x hx=>.inl hx)) (by omega) (fun j hj=>.inr hj),hO⟩
 ·obtain rfl | rfl | rfl | rfl | rfl:t=0∨t=1∨t=2∨t=3∨t=4:=by omega
  ·rw [Zv (by omega),Zv (by omega),Wm,Yr (by omega)];rfl
  ·rw [Zv (by omega),Yr (by simp;omega)];rfl
  ·rw [Zv (by omega),Zv (by omega),Zv (by omega),hcell];exact hc.mc.c2
  ·rw [Zv (by omega),Zv (by omega),Zv (by omega),hcell];exact hc.mc.c3
  ·rw [Yr (by simp;omega)];rfl
 ·rw [Zv (by omega),Zv (by omega),Zv (by omega)]
theorem PlJ.pages {l0:List StepD} {i m:Nat} (h:PlJ w wr p ck l0 i tb M u pg v L cbs) (hi:i≤300) (hle:lenE (L.map (·.2))≤9000) (hm:mostP (L.map (·.2))≤m) (hm1:m≤1000) {k:Nat} (h1:OneQ (fun _=>True) w' p tb 600 M' u pg k (L.map (·.2))) (hS:Step M M' wr w') (hk:k+8*m≤900000) :
  Calls prog 20 #[.pointer (some ⟨p,0,none⟩),.pointer (some ⟨tb,0,none⟩),v] w' fun e w2=>e=.returned (.bool true)∧Only [] w w2:=by
 obtain ⟨H,T,hT⟩:=h1.tree;obtain ⟨g1,g2,g3,g4,g5⟩:=id hT;have he:=h.rest.ent.step hS;have hl:=h.len
 refine (pagesL_any h1.pool h1.at_ h1.off g1 (by omega) (by rw [g2,Zl];omega) he.prs he.off (by omega) (by omega) g3 (by omega)).mono ?_
 rintro e w2 ⟨M2,rfl,hP,hS2⟩;exact ⟨rfl,((h.rest.step.trans hS).trans hS2).1⟩
end
theorem which_ok (z:Int):∃ jj:Nat,jj<3∧(wrap64 (z.tmod 3+3)).tmod 3=(jj:Int):=by
 have h1:z.tmod 3<3:=Int.tmod_lt_of_pos z (by omega);have h2:-3<z.tmod 3:=Int.lt_tmod_of_pos z (by omega);obtain ⟨m,hm⟩:∃ m:Nat,z.tmod 3+3=m:=⟨(z.tmod 3+3).toNat,by omega⟩
 have h3:wrap64 (z.tmod 3+3)=(m:Int):=by unfold wrap64;omega
 exact ⟨m % 3,Nat.mod_lt _ (by decide),by rw [h3];rfl⟩
theorem lenE_mem {E:List Pr} {x:Pr} (h:x∈E):x.1.length≤lenE E:=by
 have h1:=Xmw (List.singleton_sublist.2 h)
 simpa [lenE] using h1
theorem lenE_ins (E:List Pr) (q:Pr):lenE (insP E q)=lenE E+q.1.length:=by
 unfold insP;have h:=Xcd (E.take (low E q)) (E.drop (low E q));rw [Yf] at h;rw [Xcd,h]
 simp [lenE]
 omega
theorem lenE_del (E:List Pr) (q:Pr):lenE (delP E q)≤lenE E:=Xmw (Wa _ _)
end T
end Go.Proofs.YtiijokopcgnokaaGreat
