import Derived.Test.YtiijokopcgnokaaGreatWDiskL
import Derived.Test.YtiijokopcgnokaaGreatWOpenU
import Derived.Deep.RegionHeld3
import Derived.Deep.DrawnRows
set_option maxRecDepth 100000
set_option linter.unusedSimpArgs false
set_option linter.unusedVariables false
namespace Go.Proofs.YtiijokopcgnokaaGreat
namespace D
open Go.RowKit Tryz
theorem Xev : (prog.info? 5).map (·.size)=some 1:=by kernel_rfl
theorem write_no (d N S:Nat) (rv:Value) (s:DS) (w:World) (h:Blk w d (Xar N S s.now.length rv s) 118) (hc0:0≤s.count) (hc1:s.count≤1099511627776) (hn:s.now.length≤65536)
    (i:Int) (ao:Option Addr) (len cap:Nat) (hno:s.err≠0∨i<0∨(s.now.length:Int)≤i∨len≠512) :
    Calls prog 105 #[.pointer (some ⟨d,0,none⟩),.int .i64 i,.slice ao len cap] w fun e w' =>
      e=.returned (.int .i64 (if s.err≠0 then s.err else if i<0∨(s.now.length:Int)≤i then 11 else 10))∧Blk w' d (Xar N S s.now.length rv s.changed) 118∧Only [d] w w':=by
  have C:=Xjm d N S s.now.length rv s w h hc0 hc1;have HC:=Th C;have HN:=Th hno;clear C hno;generalize s.now.length=n at *;generalize s.err=er at *
  by_cases he:er=0
  · subst he
    by_cases hi:i<0
    · go_enter func105,ntmps105
      go_wp2_with (go_at_call 126;refine HC.out.mono ?_;rintro e w1 ⟨rfl,hb,hO⟩)
      go_ret;exact ⟨by simp [hi],hb,hO⟩
    · by_cases hi2:(n:Int)≤i
      · go_enter func105,ntmps105
        go_wp2_with (go_at_call 126;refine HC.out.mono ?_;rintro e w1 ⟨rfl,hb,hO⟩;have c0:=hb.cell 0;simp [Xar] at c0)
        go_ret;exact ⟨by simp [hi,hi2],hb,hO⟩
      · have hl:len≠512:=by have:=HN.out;omega
        have hl2:((len:Int) == 512)=false:=by simp;omega
        have hl3:((len:Int) != 512)=true:=by simp;omega
        go_enter func105,ntmps105
        go_wp2_with (go_at_call 126;refine HC.out.mono ?_;rintro e w1 ⟨rfl,hb,hO⟩;have c0:=hb.cell 0;simp [Xar] at c0)
        go_ret;exact ⟨by simp [hi,hi2],hb,hO⟩
  · have he2:(er == 0)=false:=by simp [he]
    have he3:(er != 0)=true:=by simp [he]
    go_enter func105,ntmps105
    go_wp2_with (go_at_call 126;refine HC.out.mono ?_;rintro e w1 ⟨rfl,hb,hO⟩)
    go_ret;exact ⟨by simp [he],hb,hO⟩
theorem Xmd {α:Type} (L cs:List α) (h:cs.length=L.length):splice L 0 cs=cs:=by simp [splice,h]
theorem src_cells {w:World} {b o:Nat} {l:List UInt8} (h:∀ j,j<l.length→w.cell? ⟨b,o+j,none⟩=some (.int .u8 (l.getD j 0).toNat)) (j:Nat) (v:Value) (hv:(u8s l)[j]?=some v):w.cell? ((⟨b,o,none⟩:Addr).add j)=some v:=by
  have hj:j<l.length:=by
    rcases Yv j l.length with h1 | h1
    · exact h1
    · rw [Xb (by simpa using h1)] at hv;cases hv
  have hadd:(⟨b,o,none⟩:Addr).add j=⟨b,o+j,none⟩:=by unfold Addr.add;split <;> simp_all
  rw [hadd,h j hj];rw [Xej,Zc hj] at hv;rw [Zf,Zc hj]
  simpa using hv
theorem zero_arr (w:World):(zeroValue 154).run prog w=.ok (.agg (u8s zeros).toArray) w:=by kernel_rfl
theorem Xfc : (prog.info? 154).map (fun i=>(i.zero,i.size,i.bytes))=some (some (.agg (List.replicate 512 (.int .u8 0)).toArray),512,512):=by kernel_rfl
theorem Xos : (prog.info? 202).map (fun i=>(i.zero,i.size,i.bytes))=some (some (.agg #[.int .i64 0,.pointer none]),2,16):=by kernel_rfl
theorem write_done {w w3 w4:World} {d:Nat} {M:List Nat} {s:DS} {N S:Nat} {rv:Value} {np sp rp:List Value} (h:DiskAt w d M s N S rv np sp rp) {i q gg cap n:Nat} {l:Xcs} (hn:s.now.length=n) (hi:i<n) (hl:l.length=512)
    (OT:Only [d,N] w w3) (HD3:Blk w3 d (Xar N S n rv s.changed) 118) (HN3:Blk w3 N (np.set i (.pointer (some ⟨q,0,none⟩))) 200) (HG3:Blk w3 q (u8s l) 154) (hq:w.heap.size≤q)
    {wx:World} (hx:Only [] w3 wx) (hgrow:wx.grownBy w4 rv.ownBlock)
    (hown:w4.ownsRow 0 202 2 (.slice (some ⟨gg,0,none⟩) (s.row.length+1) cap) (s.row.length+1) (rp++[.int .i64 i,.pointer (some ⟨q,0,none⟩)])) (hat:rv.ownBlock=some gg∨gg=w3.heap.size+1) :
    ∃ M' rv' np' rp',DiskAt (w4.setCell ⟨d,2,none⟩ (.slice (some ⟨gg,0,none⟩) (s.row.length+1) cap)) d M' { s.changed with now:=s.now.set i l,row:=s.row++[(i,l)] } N S rv' np' sp rp' ∧
      Only M w (w4.setCell ⟨d,2,none⟩ (.slice (some ⟨gg,0,none⟩) (s.row.length+1) cap))∧∀ k∈M',k∈M∨w.heap.size≤k:=by
  have hdM:d∈M:=by rw [h.foot];simp
  have hNM:N∈M:=by rw [h.foot];simp
  have hSM:S∈M:=by rw [h.foot];simp
  have hgM:∀ k,rv.ownBlock=some k→k∈M:=fun k hk=>by rw [h.foot];simp [hk]
  have O4:Only M w w4:=((OT.mono (M':=M) (fun x hx=>.inl (by simp at hx;rcases hx with rfl | rfl;exact hdM;exact hNM))).trans hx (by simp)).grown hgrow (fun k hk=>.inl (hgM k hk));have O5:=O4.setCell (p:=⟨d,2,none⟩) (.inl hdM) (.slice (some ⟨gg,0,none⟩) (s.row.length+1) cap)
  have W:∀ {b cs t},Blk w3 b cs t→rv.ownBlock≠some b→b≠d→Blk (w4.setCell ⟨d,2,none⟩ (.slice (some ⟨gg,0,none⟩) (s.row.length+1) cap)) b cs t:=fun hb h1 h2 =>
    Blk.far (by
      have hb2:=hx.blk hb (by simp);unfold Blk at *
      rw [hgrow.block _ (Blk.lt hb2) (fun e=>h1 e.symm)];exact hb2) _ h2
  have rd:rv.ownBlock≠some d:=Xaj h.own h.disk (by decide);have rN:rv.ownBlock≠some N:=Xaj h.own h.nowB (by decide);have rS:rv.ownBlock≠some S:=Xaj h.own h.sureB (by decide)
  have rq:rv.ownBlock≠some q:=fun e=>by have:=Xbk h.own e;omega
  have dq:q≠d:=by have:=h.disk.lt;omega
  have D4:Blk w4 d (Xar N S n rv s.changed) 118:=by
    have hb2:=hx.blk HD3 (by simp);unfold Blk at *
    rw [hgrow.block _ (Blk.lt hb2) (fun e=>rd e.symm)];exact hb2
  have hqb:=W HG3 rq dq
  have gd:gg≠d:=by
    rcases hat with e | e
    · intro e2;subst e2;exact rd e
    · have:=h.disk.lt;have:=OT.size;omega
  refine ⟨[d,N,S]++[gg],.slice (some ⟨gg,0,none⟩) (s.row.length+1) cap,np.set i (.pointer (some ⟨q,0,none⟩)),rp++[.int .i64 i,.pointer (some ⟨q,0,none⟩)],⟨?_,?_,?_,h.ne,?_,?_,?_,?_,?_,?_,rfl⟩,O5,?_⟩
  · refine (D4.set 2 _).to ?_
    simp [Xar,hn]
  · exact W HN3 rN (h.nowB.ne h.disk (by decide))
  · exact W (OT.blk h.sureB (by simp;exact ⟨h.sureB.ne h.disk (by decide),h.ne.symm⟩)) rS (h.sureB.ne h.disk (by decide))
  · exact (h.nowS.later O5 h.noSec).set i ⟨hl,.inr ⟨q,rfl,hqb⟩⟩
  · exact h.sureS.later O5 h.noSec
  · simp [h.same,DS.changed]
  · simp [h.few]
  · rw [Ze,Zt]
    exact Xab hown ((Only.refl [d] _).setCell (.inl (by simp)) _) (fun k hk=>by simp [Value.ownBlock] at hk;subst hk;simpa using gd)
  · simp only [Yz]
    exact (h.row.later O5 h.noSec).snoc (by omega) hqb hl
  · intro k hk
    simp only [Xa,Ym,Zg,Xt,or_false] at hk
    rcases hk with rfl | rfl | rfl | rfl
    · exact .inl hdM
    · exact .inl hNM
    · exact .inl hSM
    · rcases hat with e | e
      · exact .inl (hgM _ e)
      · right;have:=OT.size;omega
set_option maxHeartbeats 1000000 in
theorem write_yes (d M N S rv s np sp rp) (w:World) (h:DiskAt w d M s N S rv np sp rp) (hc0:0≤s.count) (hc1:s.count≤1099511627776) (hr:s.row.length≤1048576)
    (i:Nat) (bv:Value) (l:Xcs) (hb:Xae w bv l) (he:s.err=0) (hi:i<s.now.length) (hl:l.length=512) (hbM:∀ a n c,bv=.slice (some a) n c→a.block∉M) :
    Calls prog 105 #[.pointer (some ⟨d,0,none⟩),.int .i64 i,bv] w fun e w' =>
      e=.returned (.int .i64 0)∧∃ M' rv' np' rp',DiskAt w' d M' { s.changed with now:=s.now.set i l,row:=s.row++[(i,l)] } N S rv' np' sp rp'∧Only M w w'∧∀ k∈M',k∈M∨w.heap.size≤k:=by
  have HH:=Th h;obtain ⟨hd,hN,hS,hne,hnow,hsure,hsame,hfew,hown,hrow,hfoot⟩:=h;obtain ⟨ao,cap,rfl,hbc0⟩:=hb;obtain ⟨b,o,rfl,hbc⟩:=hbc0 (by omega);clear hbc0;have C:=Xjm d N S s.now.length rv s w hd hc0 hc1;rw [he] at C;have HC:=Th C;have HL:=Th hl;rw [hl];generalize hn:s.now.length=n at *;have Hn:=Th hn;clear C hl hn;have hz:=zero_arr
  have hi0:(0:Int)≤i:=by omega
  have hi1:(i:Int)<n:=by omega
  have hdM:d∈M:=by rw [hfoot];simp
  have hNM:N∈M:=by rw [hfoot];simp
  have hbd:b≠d:=fun e=>hbM ⟨b,o,none⟩ _ _ rfl (by rw [e];exact hdM)
  have hbN:b≠N:=fun e=>hbM ⟨b,o,none⟩ _ _ rfl (by rw [e];exact hNM)
  have HBC:=Th hbc
  have HL1:Hid ((u8s l).length=Nat.min 512 512):=by rw [Xaf];exact HL.out
  have HL2:Hid (0+(u8s l).length≤(u8s zeros).length):=by rw [Xaf,Xaf,Xek,HL.out];exact Zq _
  clear hbc hbM
  go_enter func105,ntmps105
  go_wp2_with (first | (go_at_call 126;refine HC.out.mono ?_;rintro e w1 ⟨rfl,hb1,hO⟩;have c0:=hb1.cell 0;simp [Xar] at c0;have HB1:=Th hb1;have HO1:=Th hO;clear hb1 hO) |
    (refine Xcx rfl (.tmp 36) (.tmp 37) 22 22 rfl 5 underlying22 Xev _ _ 512 512 512 cap rfl rfl w1.heap.size 0 (u8s zeros) 154 ((Blk.new (u8s zeros) 154 w1).alloc _) (u8s l) (by exact HL1.out) (by exact fun _=>⟨rfl,_,rfl,src_cells fun j hj=>Blk.cellAlloc _ (Blk.cellAlloc _ (HO1.out.cell (HBC.out j hj) (by simp [hbd])))⟩) (by exact HL2.out) (Xba l) ?_))
  intro w2 hg2 hO2;have HG2:=Th (hg2.to (Xmd _ _ (by have:=HL.out;rw [Xaf,Xaf,this,Xek])))
  have HO2:=Th hO2;have hd1:=HB1.out.lt;have hd2:Blk w2 d _ _:=HO2.out.blk ((HB1.out.alloc _).alloc _) (by simp;omega)
  have hN2:Blk w2 N np _:=HO2.out.blk (((HO1.out.blk hN (by simp;exact (hN.ne hd (by decide)))).alloc _).alloc _) (by have:=hN.lt;have:=HO1.out.size;simp;omega);have hp2:Blk w2 (w1.heap.size+1) _ _:=HO2.out.blk (Blk.new' _ _ _ (by simp)) (by simp);have c0:=hd2.cell 0;have c2:=hd2.cell 2;have p0:=hp2.cell 0;have p1:=hp2.cell 1
  simp [Xar] at c0 c2 p0 p1
  clear hg2 hO2
  have hil:i<np.length:=by rw [hnow.1,Hn.out];exact hi
  have cN:=hN2.cell i;rw [Zc hil] at cN;have fN:=hN2.frozen i;have HN2:=Th hN2;have HD2:=Th hd2;have HP2:=Th hp2;clear hN2 hd2 hp2;generalize np[i]=oldv at *;have e1:N≠d:=hN.ne hd (by decide)
  have e2:N≠w1.heap.size+1:=by have:=hN.lt;have:=HO1.out.size;omega
  go_wp2_with fail
  go_region_held3 (fun w'=>w'.cell? ⟨d,0,none⟩=some (.slice (some ⟨N,0,none⟩) n n)∧w'.cell? ⟨w1.heap.size+1,1,none⟩=some (.pointer (some ⟨w1.heap.size,0,none⟩))) (go_keep) (fail)
  go_wp2_with fail
  have OT:Hid (Only [d,N] w (w2.setCell ⟨N,i,none⟩ (.pointer (some ⟨w1.heap.size,0,none⟩))).drew):=by
    refine Only.drew (Only.setCell ?_ (.inl (by simp)) _);refine Only.trans ((HO1.out.mono (by simp)).alloc _ |>.alloc _) HO2.out (fun x hx=>?_)
    right;simp at hx;have:=HO1.out.size;omega
  have HD3:=Th ((HD2.out.far (a:=⟨N,i,none⟩) (.pointer (some ⟨w1.heap.size,0,none⟩)) e1.symm).drew);have HN3:=Th ((HN2.out.set i (.pointer (some ⟨w1.heap.size,0,none⟩))).drew);have HP3:=Th ((HP2.out.far (a:=⟨N,i,none⟩) (.pointer (some ⟨w1.heap.size,0,none⟩)) e2.symm).drew);have HG3:=Th ((HG2.out.far (a:=⟨N,i,none⟩) (.pointer (some ⟨w1.heap.size,0,none⟩)) (by have:=hN.lt;have:=HO1.out.size;simp;omega)).drew)
  clear c0 c2 p0 p1 cN fN;generalize (w2.setCell ⟨N,i,none⟩ (.pointer (some ⟨w1.heap.size,0,none⟩))).drew=w3 at *;have c2:=HD3.out.cell 2;have f2:=HD3.out.frozen 2;have p0:=HP3.out.cell 0;have p1:=HP3.out.cell 1
  simp [Xar] at c2 p0 p1
  have own3:=Xab hown OT.out (fun k hk hm=>by
    simp at hm
    rcases hm with rfl | rfl
    · exact Xaj hown hd (by decide) hk
    · exact Xaj hown hN (by decide) hk)
  have HOWN:=Th own3;have ag:=Xaj own3 HD3.out (by decide)
  have ap:rv.ownBlock≠some (w1.heap.size+1):=fun hk=>by have:=Xbk hown hk;have:=HO1.out.size;omega
  have HAP:=Th ap;have HAG:=Th ag;have dlt:=HD3.out.lt;have qlt:=HP3.out.lt;obtain ⟨i0,hi0',hz0,hz1,hz2⟩:=info_parts Xos;generalize hrn:s.row.length=rn at *;have Hrn:=Th hrn;clear hrn;clear own3 ag ap hown hnow hsure hd hN hS
  go_region_law
    ((refine step_append_lies _ (by rfl) _ _ _ (by rfl) 0 202 i0 _ 2 16 underlying116 hi0' hz0 hz1 hz2 rfl (by omega) rv rn rp (by rfl) ((HOWN.out.alloc _).drew)
        ⟨w3.heap.size,0,none⟩ 1 1 [.int .i64 i,.pointer (some ⟨w1.heap.size,0,none⟩)] (by rfl) (by rfl) (World.news_of_block (cs:=#[.int .i64 i,.pointer (some ⟨w1.heap.size,0,none⟩)]) (t:=202) (fr:=(0,0)) (heap_alloc_new w3 _)) (by simp [Value.oneCell'])
        (by omega) (by unfold maxLen;omega) (by omega) (by omega) (w3.heap.size+1) (by simp) ?_;intro gg cap w4 hown1 hgrow hat hlt;have c2':=(hgrow.cell_far ⟨d,2,none⟩ (by simp;omega) (Ne.symm HAG.out)).trans ((World.cell?_alloc_lt _ _ _ (by simp;omega)).trans c2);have f2':=(hgrow.frozen_far ⟨d,2,none⟩ (by simp;omega) (Ne.symm HAG.out)).trans ((HD3.out.alloc _).frozen 2)))
  all_goals
    go_wp2
    go_ret;obtain rfl:=Hrn.out;refine ⟨rfl,?_⟩;exact write_done HH.out Hn.out hi HL.out OT.out HD3.out HN3.out HG3.out HO1.out.size (((Only.refl _ _).alloc _).drew) hgrow hown1 hat
end D
namespace D
open Go.RowKit Tryz
theorem info_byte : (prog.info? 5).map (fun i=>(i.zero,i.size,i.bytes))=some (some (.int .u8 0),1,1):=by kernel_rfl
theorem make_512 : ∀ w:World,(Instr.makeSlice 22 (.int .i64 512) (.int .i64 512)).run prog w =
    .ok (.slice (some ⟨w.heap.size,0,none⟩) 512 512) (w.alloc (.cells (u8s zeros).toArray 5)):=by
  intro w;obtain ⟨i,hi,hz0,hz1,hz2⟩:=info_parts info_byte;have hr:=run_make (P:=prog) w 22 5 i (.int .u8 0) underlying22 hi hz0 .i64 .i64 512 512 (by omega) (by omega) (by rw [hz2];omega) (by omega)
  rw [hr];simp only [Value.cells,hz1,Wi,Xcv];rw [zeros,Xfj];rfl
theorem read_down (d N S n:Nat) (rv:Value) (s:DS) (w:World) (h:Blk w d (Xar N S n rv s) 118) (i:Int) (hdn:s.down=true) :
    Calls prog 114 #[.pointer (some ⟨d,0,none⟩),.int .i64 i] w fun e w'=>e=.returned (.tuple #[.slice none 0 0,.int .i64 13])∧w=w':=by
  have c6:=h.cell 6
  simp [Xar,hdn] at c6
  go_enter func114,ntmps114
  go_wp2
  go_ret2;exact ⟨rfl,rfl⟩
theorem read_place (d N S n:Nat) (rv:Value) (s:DS) (w:World) (h:Blk w d (Xar N S n rv s) 118) (i:Int) (hdn:s.down=false) (hi:i<0∨(n:Int)≤i) :
    Calls prog 114 #[.pointer (some ⟨d,0,none⟩),.int .i64 i] w fun e w'=>e=.returned (.tuple #[.slice none 0 0,.int .i64 11])∧w=w':=by
  have c6:=h.cell 6;have c0:=h.cell 0
  simp [Xar,hdn] at c6 c0
  by_cases h0:i<0
  · go_enter func114,ntmps114
    go_wp2
    go_ret2;exact ⟨rfl,rfl⟩
  · have h1:(n:Int)≤i:=by omega
    clear hi
    go_enter func114,ntmps114
    go_wp2
    go_ret2;exact ⟨rfl,rfl⟩
theorem read_ok {d M s N S rv np sp rp} {w:World} (h:DiskAt w d M s N S rv np sp rp) (i:Nat) (hdn:s.down=false) (hi:i<s.now.length) :
    Calls prog 114 #[.pointer (some ⟨d,0,none⟩),.int .i64 i] w fun e w'=>e=.returned (.tuple #[.slice (some ⟨w.heap.size,0,none⟩) 512 512,.int .i64 0]) ∧
      Blk w' w.heap.size (u8s (s.now.getD i [])) 5∧Only [] w w':=by
  have hsec:=h.nowS.2 i hi;have c6:=h.disk.cell 6;have c0:=h.disk.cell 0
  simp [Xar,hdn] at c6 c0
  have hil:i<np.length:=by rw [h.nowS.1];exact hi
  have cN:=h.nowB.cell i;rw [Zc hil] at cN;rw [Zf,Zc hil] at hsec;simp only [Option.getD_some] at hsec;obtain ⟨hlen,hv⟩:=hsec;generalize s.now.getD i []=l at *;generalize s.now.length=n at *;have hmk:=make_512;have dlt:=h.disk.lt;have Nlt:=h.nowB.lt
  have hi0:(0:Int)≤i:=by omega
  have hi1:(i:Int)<n:=by omega
  have HL:=Th hlen;clear hlen
  rcases hv with ⟨hv,rfl⟩ | ⟨g,hv,hb⟩
  · rw [hv] at cN
    clear hv
    go_enter func114,ntmps114
    go_wp2
    go_ret2;exact ⟨rfl,Blk.new _ _ _,(Only.refl _ _).alloc _⟩
  · rw [hv] at cN
    clear hv;have HB:=Th hb
    have HL1:Hid ((u8s l).length=Nat.min 512 512):=by rw [Xaf];exact HL.out
    have HL2:Hid (0+(u8s l).length≤(u8s zeros).length):=by rw [Xaf,Xaf,Xek,HL.out];exact Zq _
    clear hb
    go_enter func114,ntmps114
    go_wp2_with (refine Xcx rfl (.tmp 35) (.tmp 38) 22 22 rfl 5 underlying22 Xev _ _ 512 512 512 512 rfl rfl w.heap.size 0 (u8s zeros) 5 (Blk.new (u8s zeros) 5 w) (u8s l) (by exact HL1.out) (by exact fun _=>⟨rfl,_,rfl,fun j v hv=>Blk.cellAlloc _ (HB.out.add_cell j v hv)⟩) (by exact HL2.out) (Xba l) ?_)
    intro w2 hg2 hO2;have HG2:=Th hg2;have HO2:=Th hO2;clear hg2 hO2
    go_wp2
    go_ret2;exact ⟨rfl,HG2.out.to (Xmd _ _ (by rw [Xaf,Xaf,HL.out,Xek])),((Only.refl _ _).alloc _).trans HO2.out (by simp)⟩
end D
namespace D
open Go.RowKit Tryz
end D
end Go.Proofs.YtiijokopcgnokaaGreat
