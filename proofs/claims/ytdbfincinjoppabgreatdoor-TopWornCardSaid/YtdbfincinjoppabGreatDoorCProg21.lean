/- A part of the proof that TopWorn always answers true. -/
import Derived.Test.YtdbfincinjoppabGreatDoorCIter3
import Derived.Test.YtdbfincinjoppabGreatDoorCProg20
set_option linter.all false
namespace Go.Proofs.YtdbfincinjoppabGreatDoor
open Go.RowKit Go.Shelf
attribute [local go_sem] Oper.semAt_some
theorem infoTruth : (Tryz.prog.info? 98).map (fun i => (i.zero, i.size, i.bytes)) = some (some (.agg #[.int .i64 0, .int .i64 0, .int .i64 0, .int .i64 0, .int .i64 0]), 5, 40) := by kernel_rfl
set_option maxRecDepth 100000 in
set_option maxHeartbeats 4000000 in
theorem appendSeqT_any {gf : Nat} {lb : Array Value} (eg : ∀ args w, (callFunc gf args).run Tryz.prog w = .ok (.enter gf args) w) {L : List (List Int)} {Inv : World → Prop} (hseq : SeqL Tryz.prog gf lb (fun t => #[tv t]) L Inv) (w : World)
  (hInv : ∀ A, Below w.heap.size w A → Inv A) (hL : L.length ≤ 100000) :
  Calls Tryz.prog 91 #[.slice none 0 0, .func (.func gf) #[] lb] w fun e w' => ∃ A' n' c', e = .returned (.slice A' n' c') ∧ Truths (fun k => w.heap.size ≤ k) w' A' n' L ∧ Below w.heap.size w w' := by
 obtain ⟨i0, hi0, hz0, hz1, hz2⟩ := info_parts infoTruth
 refine (callsIn_wide (n := 1)).1 ?_
 refine callsIn_of_wp_marks Tryz.func91 rfl trivial ?_ rfl
 simp only [Tryz.ntmps91, List.size_toArray, List.length_cons, List.length_nil, Nat.reduceAdd, Nat.reduceSub, Array.replicate_succ, Array.replicate_zero, List.push_toArray, List.append_toArray, List.nil_append, List.cons_append]
 gi_wp2
 obtain ⟨W2, hW2⟩ : ∃ W2, w.alloc (.cells #[.slice none 0 0] 125) = W2 := ⟨_, rfl⟩
 have hk2 : Below w.heap.size w W2 := by rw [← hW2]; exact bl_alloc (Below.refl _ _) _ (Nat.le_refl _)
 have hs2 : W2.heap.size = w.heap.size + 1 := by rw [← hW2]; simp
 have hg2 : Blk W2 w.heap.size 125 #[.slice none 0 0] := by rw [← hW2]; exact Blk.new _ _ _ rfl
 rw [hW2]
 clear hW2
 have hbl : ∀ {A : World}, Kept (fun k => (fun k => k = w.heap.size) k ∨ W2.heap.size ≤ k) W2 A → Below w.heap.size w A := fun hK => hk2.trans (hK.below (by omega) (fun k h => h.elim (fun h => by dsimp only at h; omega) (fun h => by omega)))
 refine rangeFunc_outer (m := 1) (gf := gf) (lb := lb) rfl eg hseq (fun _ => rfl) (fun k => k = w.heap.size)
  (fun i O A => ColSt TrR 5 A w.heap.size 125 w.heap.size 98 (L.take i) O) (fun _ _ _ => False) (fun k h => by omega) (fun A hK => hInv A (hbl hK)) (fun i O A B h _ hK => h.stay TrR.good hK) (fun _ _ _ _ h _ _ => h)
  ⟨none, 0, hg2, OwnL.nil _ _ _ _ _ _, fun k => by simp [Value.ownBlock], by simp [Value.ownBlock]⟩ ?round ?done (fun _ _ _ _ h _ _ _ _ _ => h.elim)
 case round =>
  intro l i x O A1 hx hj hlt hsub hK hnl hlA hWl
  have hil : i < L.length := of_getq hx
  have hti : (L.take i).length = i := by rw [List.length_take]; omega
  have HT := Lib.hid hti
  have HX := Lib.hid hx
  have HJ := Lib.hid hj
  have HK := Lib.hid hK
  clear hti hx hj hK
  have htv : tv x = .agg #[.int .i64 (x.getD 0 0), .int .i64 (x.getD 1 0), .int .i64 (x.getD 2 0), .int .i64 (x.getD 3 0), .int .i64 (x.getD 4 0)] := rfl
  have hrd : ∀ (S : Foot) (W : World), TrR S W x [.int .i64 (x.getD 0 0), .int .i64 (x.getD 1 0), .int .i64 (x.getD 2 0), .int .i64 (x.getD 3 0), .int .i64 (x.getD 4 0)] := fun _ _ => rfl
  generalize x.getD 0 0 = a0 at htv hrd
  generalize x.getD 1 0 = a1 at htv hrd
  generalize x.getD 2 0 = a2 at htv hrd
  generalize x.getD 3 0 = a3 at htv hrd
  generalize x.getD 4 0 = a4 at htv hrd
  have HTV := Lib.hid htv
  have HRD := Lib.hid hrd
  clear htv hrd
  rw [fold1, HTV.out]
  simp only [List.setIfInBounds_toArray, List.set_cons_zero, List.set_cons_succ]
  gi_wp2
  refine ⟨Kept.alloc _ _ _, fun A2 hK2 hs2' => ?_⟩
  intros
  have hs2a : A1.heap.size + 1 ≤ A2.heap.size := by omega
  have hs2b : A2.heap.size ≤ A1.heap.size + 1 := by omega
  clear hs2'
  have kA : Kept (fun k => k = l) A1 A2 := (Kept.alloc (fun k => k = l) A1 (.cells #[.int .i64 a0, .int .i64 a1, .int .i64 a2, .int .i64 a3, .int .i64 a4] 98)).trans hK2
  have hT2 : Blk A2 A1.heap.size 98 #[.int .i64 a0, .int .i64 a1, .int .i64 a2, .int .i64 a3, .int .i64 a4] := (hK2.block A1.heap.size (by simp) (by omega)).trans (Blk.new _ _ _ rfl)
  have ht0 := hT2.cell 0
  have ht1 := hT2.cell 1
  have ht3 := hT2.cell 2
  have ht4 := hT2.cell 3
  have ht5 := hT2.cell 4
  have hj2 := HJ.out.stay (B := A2) TrR.good (kA.mono fun k _ h hO => hnl (h ▸ hO))
  obtain ⟨Ad, cap, hB, hO, hOO, hne⟩ := hj2.st
  rw [HT.out] at hB hO hOO hne
  have hc := hB.cell 0
  have hgl := hB.lt
  have hOO' := Lib.hid hOO
  have hne' := Lib.hid hne
  clear hj2 hOO hne
  gi_wp2_with (gi_at_builtin; refine wpListIn_append_n _ rfl (.tmp 8) (.tmp 10) _ rfl TrR.good w.heap.size 98 i0 _ 40 Tryz.underlying125 hi0 hz0 hz1 hz2 rfl (by omega) _ (L.take i) x i HT.out rfl (hO.alloc TrR.good _) ⟨_, 0, none⟩ 1 [.int .i64 a0, .int .i64 a1, .int .i64 a2, .int .i64 a3, .int .i64 a4] rfl (HRD.out _ _) (news_new rfl rfl) ?c1 ?c2 ?c3 (fun h => h) ?_)
  case c1 => simp only [maxLen]; omega
  case c2 => omega
  case c3 => have := HK.out.size; simp; omega
  intro A3 cap3 w3 hO3 hg3 hat3
  have hBg : Blk w3 w.heap.size 125 #[.slice Ad i cap] := (hB.alloc _).grown hg3 (Ne.symm hne'.out)
  have hgc := hBg.cell 0
  have hgf := hBg.frozen 0
  have hgl3 := hBg.lt
  have hA3l : A3 < w3.heap.size := (OwnL.block hO3 A3 rfl).2
  have hne3 : A3 ≠ w.heap.size := fun e => hat3.elim (fun h => hne'.out (by rw [h, e])) (fun h => by first | omega | (simp at h; omega))
  have hs3 : A2.heap.size + 1 ≤ w3.heap.size := by have := hg3.size; simpa using this
  have hke : Kept O A2 (w3.setCell ⟨w.heap.size, 0, none⟩ (.slice (some ⟨A3, 0, none⟩) (i + 1) cap3)) :=
   ((Kept.alloc _ _ _).trans (Kept.grown hg3 (fun k hk => (hOO'.out k).2 (.inr hk)))).trans (Kept.setCell _ _ _ ((hOO'.out _).2 (.inl rfl)))
  have hfin : ColSt TrR 5 (w3.setCell ⟨w.heap.size, 0, none⟩ (.slice (some ⟨A3, 0, none⟩) (i + 1) cap3)) w.heap.size 125 w.heap.size 98 (L.take (i + 1)) (fun k => k = w.heap.size ∨ A3 = k) := by
   rw [take_snoc_get HX.out]
   refine ⟨some ⟨A3, 0, none⟩, cap3, ?_, ?_, fun k => by simp [Value.ownBlock], by simp [Value.ownBlock]; exact hne3⟩
   ·rw [List.length_append, HT.out]; exact hBg.set_ 0 _
   rw [List.length_append, HT.out]
   exact hO3.keep TrR.good (Keeps.setCell _ _ _ (fun h => h.elim (fun h => h) (fun h => hne3 (by simpa [Value.ownBlock] using h))))
  have HKE := Lib.hid hke
  have HFIN := Lib.hid hfin
  clear hke hfin hO3 hg3 hO hB hc
  gi_wp2
  refine ⟨HKE.out, _, ?_, HFIN.out⟩
  intro k hk
  rcases hk with rfl | rfl
  ·exact .inl ((hOO'.out _).2 (.inl rfl))
  rcases hat3 with h | h
  ·exact .inl ((hOO'.out _).2 (.inr h))
  refine .inr ⟨by first | omega | (simp at h; omega), by simpa [World.setCell] using hA3l⟩
 rintro O W' D hj hO hK hD hnD hDb
 rw [List.take_length] at hj
 have hBW : Below w.heap.size w W' := hbl hK
 obtain ⟨Ad, cap, hB, hOw, hOO, _⟩ := hj.st
 have hc := hB.cell 0
 have hOp : OwnL TrR 5 (fun _ => False) (W'.putObj D (.deferred none)) w.heap.size 98 (.slice Ad L.length cap) L :=
  hOw.keep TrR.good ⟨by simp, fun k hk _ => World.putObj_heap_other (fun e => hk.elim (fun h => h) (fun h => hnD ((hOO D).2 (.inr (e ▸ h)))))⟩
 have HOp := Lib.hid hOp
 clear hOw hOp hOO
 gi_wp2
 refine ⟨by simp, .inl ⟨_, _, rfl, run_takeDeferred hDb, ?_⟩⟩
 have hS := HOp.out.slice (T := fun k => w.heap.size ≤ k) TrR.good rfl (by simp only [maxLen]; omega) (fun _ h => h.elim) (fun _ h _ => h)
 exact ⟨_, results_tmp rfl _ _ _, _, _, ⟨_, rfl⟩, hS, bl_put hBW (by omega) _⟩
theorem collectT_any {gf : Nat} {lb : Array Value} (eg : ∀ args w, (callFunc gf args).run Tryz.prog w = .ok (.enter gf args) w) {L : List (List Int)} {Inv : World → Prop} (hseq : SeqL Tryz.prog gf lb (fun t => #[tv t]) L Inv) (w : World)
  (hInv : ∀ A, Below w.heap.size w A → Inv A) (hL : L.length ≤ 100000) :
  Calls Tryz.prog 60 #[.func (.func gf) #[] lb] w fun e w' => ∃ A' n' c', e = .returned (.slice A' n' c') ∧ Truths (fun k => w.heap.size ≤ k) w' A' n' L ∧ Below w.heap.size w w' := by
 have HC := Lib.hid (appendSeqT_any eg hseq w hInv hL)
 clear hseq hInv eg
 go_enter Tryz.func60, Tryz.ntmps60
 go_wp2_with (go_at_call 91; refine HC.out.mono ?_; rintro e w' ⟨A', n', c', rfl, hI, hb⟩)
 go_ret
 exact ⟨_, _, _, rfl, hI, hb⟩
end Go.Proofs.YtdbfincinjoppabGreatDoor
