import Derived.Test.YtiijokopcgnokaaGreatWOpenU
set_option linter.unusedSimpArgs false
set_option linter.unusedVariables false
namespace Go.Proofs.YtiijokopcgnokaaGreat
open Go.RowKit
def Off (e:TypeId) (w:World) (X:List Nat):Prop:=∀ k∈X,∀ cs,¬Blk w k cs e
theorem Off.nil (e:TypeId) (w:World):Off e w []:=fun _ h=>by simp at h
theorem Off.one {e t:TypeId} {w:World} {g:Nat} {cs:List Value} (hb:Blk w g cs t) (hne:t≠e):Off e w [g]:=fun k hk cs' hb'=>by
 simp only [Zg,Xt,or_false] at hk;subst hk;exact hb.ne hb' hne rfl
theorem Xbe (w:World) (g i:Nat) (v:Value):Only [g] w (w.setCell ⟨g,i,none⟩ v):=(Only.refl _ _).setCell (.inl (by simp)) _
theorem Xdi {w:World} {base:Nat} {e:TypeId} {size:Nat} {g n cap:Nat} {xs:List Value} (h:w.ownsRow base e size (.slice (some ⟨g,0,none⟩) n cap) n xs) :
  ∃ cur,Blk w g cur e∧cur.length=cap*size∧cur.take (n*size)=xs∧n≤cap:=by
 rcases h.2 with ⟨h0,_⟩ | ⟨g',cap',cur,hv,_,hh,h3,_,h5,h6⟩
 ·cases h0
 ·simp only [Value.slice.injEq,Zw,Addr.mk.injEq,and_true,true_and] at hv
  obtain ⟨rfl,rfl⟩:=hv;exact ⟨cur.toList,by unfold Blk;rw [Array.toArray_toList];exact hh,by rw [Array.length_toList];exact h5,h6,h3⟩
theorem Xag {w:World} {base:Nat} {e:TypeId} {size:Nat} {v:Value} {n:Nat} {xs:List Value} (h:w.ownsRow base e size v n xs) {k:Nat} (hk:v.ownBlock=some k):∃ cs,Blk w k cs e:=by
 rcases h.2 with ⟨rfl,_⟩ | ⟨g',cap',cur,rfl,_,hh,_⟩
 ·cases hk
 ·simp only [Value.ownBlock,Zw] at hk
  subst hk;exact ⟨cur.toList,by unfold Blk;rw [Array.toArray_toList];exact hh⟩
theorem Xni {w w':World} {X:List Nat} {base:Nat} {e:TypeId} {size:Nat} {v:Value} {n:Nat} {xs:List Value} (h:w.ownsRow base e size v n xs) (hO:Only X w w') (hX:Off e w X):w'.ownsRow base e size v n xs :=
 Xab h hO (fun k hk hm=>by obtain ⟨cs,hb⟩:=Xag h hk;exact hX k hm cs hb)
theorem Xad {w w':World} {base:Nat} {e:TypeId} {size:Nat} {v:Value} {n:Nat} {xs:List Value} (h:w.ownsRow base e size v n xs) (hO:Only [] w w'):w'.ownsRow base e size v n xs:=Xni h hO (Off.nil _ _)
theorem Blk.owns {w:World} {g:Nat} {cs:List Value} {e:TypeId} (h:Blk w g cs e) (hl:cs.length≤maxLen):w.ownsRow 0 e 1 (.slice (some ⟨g,0,none⟩) cs.length cs.length) cs.length cs :=
 ⟨by omega,.inr ⟨g,cs.length,cs.toArray,rfl,Yc _,h,Zq _,hl,by simp,by simp⟩⟩
theorem owns_set {w:World} {e:TypeId} {g n cap:Nat} {xs:List Value} (h:w.ownsRow 0 e 1 (.slice (some ⟨g,0,none⟩) n cap) n xs) (i:Nat) (hi:i<n) (x:Value) :
  (w.setCell ⟨g,i,none⟩ x).ownsRow 0 e 1 (.slice (some ⟨g,0,none⟩) n cap) n (xs.set i x):=by
 obtain ⟨h1,h2⟩:=h
 rcases h2 with ⟨h0,_⟩ | ⟨g',cap',cur,hv,hb,hh,h3,h4,h5,h6⟩
 ·cases h0
 ·simp only [Value.slice.injEq,Zw,Addr.mk.injEq,and_true,true_and] at hv
  obtain ⟨rfl,rfl⟩:=hv;refine ⟨by simp [h1],.inr ⟨g,cap,cur.setIfInBounds i x,rfl,hb,heap_setCell_same w g i cur e x hh,h3,h4,by simp [h5],?_⟩⟩;rw [Array.toList_setIfInBounds,List.take_set,h6]
def Xau (bt:TypeId) (w:World) (v:Value) (l:List UInt8):Prop:=w.ownsRow 0 bt 1 v l.length (u8s l)
theorem Xau.off {bt:TypeId} {w w':World} {X:List Nat} {v:Value} {l:List UInt8} (h:Xau bt w v l) (hO:Only X w w') (hX:Off bt w X):Xau bt w' v l:=Xni h hO hX
theorem Blk.byteRow {bt:TypeId} {w:World} {g n:Nat} {l:List UInt8} (h:Blk w g (u8s l) bt) (hn:l.length=n) (hl:n≤maxLen):Xau bt w (.slice (some ⟨g,0,none⟩) n n) l:=by
 subst hn;have:=Blk.owns h (by rw [Xaf];exact hl)
 rw [Xaf] at this;exact this
theorem Xau.at {bt:TypeId} {w:World} {v:Value} {l:List UInt8} (h:Xau bt w v l):Xae w v l:=by
 rcases h.2 with ⟨rfl,h0⟩ | ⟨g,cap,cur,rfl,_,hh,h3,_,h5,h6⟩
 ·exact ⟨none,0,by rw [h0],fun h=>by omega⟩
 ·refine ⟨_,cap,rfl,fun _=>⟨g,0,rfl,fun j hj=>?_⟩⟩
  have hc:=cell_of_row w g j cur bt (0,0) hh
  have hj2:(u8s l)[j]?=some (.int .u8 (l.getD j 0).toNat):=by
   rw [Xej,Zc hj,Zf,Zc hj];rfl
  rw [←h6,Yq,if_pos (by omega)] at hj2;rw [Yd,hc]
  simpa using hj2
def ByteRows (bt:TypeId) (w:World) (vs:List Value) (ls:List (List UInt8)):Prop:=vs.length=ls.length∧∀ i,i<ls.length→Xau bt w (vs.getD i undef) (ls.getD i [])
theorem ByteRows.nil (bt:TypeId) (w:World):ByteRows bt w [] []:=⟨rfl,fun _ h=>by simp at h⟩
end Go.Proofs.YtiijokopcgnokaaGreat
namespace Go.Proofs.YtiijokopcgnokaaGreat
open Go.RowKit
theorem cell_lt {w:World} {b o:Nat} {v:Value} (h:w.cell? ⟨b,o,none⟩=some v):b<w.heap.size:=World.block_lt_of_cell? w ⟨b,o,none⟩ h
theorem Only.ofGrown {w w':World} {row:Option Nat} (hg:w.grownBy w' row):Only row.toList w w' :=
 (Only.refl _ _).grown hg (fun k hk=>.inl (by simp [hk]))
theorem wpList_push {P:Program} {w:World} {ops:Array Oper} {rest:List Oper} {o:Oper} {a:Act} {Q:Exit→Act→World→Prop} (hgd:o.guard=none) (s x:Operand) (t:TypeId)
  (ho:o.op=.call { callee:=.builtin .append,args:=#[s,x],argTypes:=#[t,t] })
  (e:TypeId) (ht:P.underlying t=some (.slice e)) {z:Value} {bytes:Nat} (hi:∃ i,P.info? e=some i∧i.zero=some z∧i.size=1∧i.bytes=bytes) (hzs:z.cells.size=1)
  (v:Value) (n:Nat) (xs:List Value) (hs:a.eval s=v) (hown:w.ownsRow 0 e 1 v n xs)
  (B c:Nat) (u:Value) (hx:a.eval x=.slice (some ⟨B,0,none⟩) 1 c) (hB:w.cell? ⟨B,0,none⟩=some u) (h1:u.oneCell'=true)
  (hn:n≤16777216) (hb:bytes≤1024)
  (h:∀ g cap w',w'.ownsRow 0 e 1 (.slice (some ⟨g,0,none⟩) (n+1) cap) (n+1) (xs++[u])→Only v.ownBlock.toList w w'→(v.ownBlock=some g∨g=w.heap.size)→g<w'.heap.size→wpList P ops Q rest (a.put o.dst (.slice (some ⟨g,0,none⟩) (n+1) cap)) w'):wpList P ops Q (o :: rest) a w:=by
 obtain ⟨i,hi,hz,hsz,hby⟩:=hi
 refine wpList_append_lies w hgd s x t ho 0 e i z 1 bytes ht hi hz hsz hby hzs (by omega) v n xs hs hown ⟨B,0,none⟩ 1 c [u] hx rfl ?_ (by simpa using h1) (by omega) (by unfold maxLen;omega) ?_ (Yc _) _ rfl ?_
 ·intro j u' hj
  match j,hj with
  | 0,hj =>
   simp only [Zb,Zw] at hj;subst hj;rw [show (⟨B,0,none⟩:Addr).add 0=⟨B,0,none⟩ from by simp [Addr.add]];exact hB
  | _+1,hj=>simp at hj
 ·calc (n+1)*bytes≤16777217*1024:=Nat.mul_le_mul (by omega) hb
   _≤_:=by omega
 ·intro g cap w' h2 h3 h4 h5
  exact h g cap w' h2 (Only.ofGrown h3) h4 h5
end Go.Proofs.YtiijokopcgnokaaGreat
