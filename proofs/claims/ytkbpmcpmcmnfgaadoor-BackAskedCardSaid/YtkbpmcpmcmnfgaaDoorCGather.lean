/- Walks: the library's collecting of an iterator's numbers. -/
import Derived.Test.YtkbpmcpmcmnfgaaDoorCProg14
import Derived.Test.YtkbpmcpmcmnfgaaDoorCRange
set_option linter.unusedVariables false
set_option linter.unusedSimpArgs false
set_option linter.all false
namespace Go.Proofs.YtkbpmcpmcmnfgaaDoor
open Go.RowKit Go.Shelf
attribute [local go_sem] Oper.semAt_some

set_option maxRecDepth 100000 in
set_option maxHeartbeats 4000000 in
theorem appendSeqI_any {gf : Nat} {lb : Array Value} (eg : ∀ args w, (callFunc gf args).run Tryd.prog w = .ok (.enter gf args) w) {L : List Int} {Inv : World → Prop} (hseq : SeqL Tryd.prog gf lb (fun i : Int => #[.int .i64 i]) L Inv) (w : World)
    (hInv : ∀ A, Below w.heap.size w A → Inv A) (hL : L.length ≤ 100000) :
    Calls Tryd.prog 97 #[.slice none 0 0, .func (.func gf) #[] lb] w fun e w' => ∃ A' n' c', e = .returned (.slice A' n' c') ∧ Ints (fun k => w.heap.size ≤ k) w' A' n' L ∧ Below w.heap.size w w' := by
  obtain ⟨i0, hi0, hz0, hz1, hz2⟩ := info_parts infoInt
  refine (callsIn_wide (n := 1)).1 ?_
  refine callsIn_of_wp_marks Tryd.func97 rfl trivial ?_ rfl
  simp only [Tryd.ntmps97, List.size_toArray, List.length_cons, List.length_nil, Nat.reduceAdd, Nat.reduceSub, Array.replicate_succ, Array.replicate_zero, List.push_toArray, List.append_toArray, List.nil_append, List.cons_append]
  gi_wp2
  obtain ⟨W2, hW2⟩ : ∃ W2, w.alloc (.cells #[.slice none 0 0] 34) = W2 := ⟨_, rfl⟩
  have hk2 : Below w.heap.size w W2 := by rw [← hW2]; exact bl_alloc (Below.refl _ _) _ (Nat.le_refl _)
  have hs2 : W2.heap.size = w.heap.size + 1 := by rw [← hW2]; simp
  have hg2 : Blk W2 w.heap.size 34 #[.slice none 0 0] := by rw [← hW2]; exact Blk.new _ _ _ rfl
  rw [hW2]
  clear hW2
  have hbl : ∀ {A : World}, Kept (fun k => (fun k => k = w.heap.size) k ∨ W2.heap.size ≤ k) W2 A → Below w.heap.size w A := fun hK => hk2.trans (hK.below (by omega) (fun k h => h.elim (fun h => by dsimp only at h; omega) (fun h => by omega)))
  refine rangeFunc_outer (m := 1) (gf := gf) (lb := lb) rfl eg hseq (fun _ => rfl) (fun k => k = w.heap.size)
    (fun i O A => ColSt IntR 1 A w.heap.size 34 w.heap.size 3 (L.take i) O) (fun _ _ _ => False) (fun k h => by omega) (fun A hK => hInv A (hbl hK)) (fun i O A B h _ hK => h.stay IntR.good hK) (fun _ _ _ _ h _ _ => h)
    ⟨none, 0, hg2, OwnL.nil _ _ _ _ _ _, fun k => by simp [Value.ownBlock], by simp [Value.ownBlock]⟩ ?round ?done (fun _ _ _ _ h _ _ _ _ _ => h.elim)
  case round =>
    intro l i x O A1 hx hj hlt hsub hK hnl hlA hWl
    have hil : i < L.length := of_getq hx
    have hti : (L.take i).length = i := by rw [List.length_take]; omega
    have HT := Lib.hid hti
    have HX := Lib.hid hx
    have HJ := Lib.hid hj
    have HK := Lib.hid hK
    clear hti hx hj hK
    rw [fold1]
    simp only [List.setIfInBounds_toArray, List.set_cons_zero, List.set_cons_succ]
    gi_wp2
    refine ⟨Kept.refl _ _, fun A2 hK2 hs2' => ?_⟩
    intros
    have hs2a : A1.heap.size ≤ A2.heap.size := by omega
    have hs2b : A2.heap.size ≤ A1.heap.size := by omega
    clear hs2'
    have hj2 := HJ.out.stay (B := A2) IntR.good (hK2.mono fun k _ h hO => hnl (h ▸ hO))
    obtain ⟨Ad, cap, hB, hO, hOO, hne⟩ := hj2.st
    rw [HT.out] at hB hO hOO hne
    have hc := hB.cell 0
    have hgl := hB.lt
    have hOO' := Lib.hid hOO
    have hne' := Lib.hid hne
    clear hj2 hOO hne
    gi_wp2_with (gi_at_builtin; refine wpListIn_append_n _ rfl (.tmp 8) (.tmp 10) _ rfl IntR.good w.heap.size 3 i0 _ 8 Tryd.underlying34 hi0 hz0 hz1 hz2 rfl (by omega) _ (L.take i) x i HT.out rfl (hO.alloc IntR.good _) ⟨_, 0, none⟩ 1 [.int .i64 x] rfl rfl (news_new rfl rfl) ?c1 ?c2 ?c3 (fun h => h) ?_)
    case c1 => simp only [maxLen]; omega
    case c2 => omega
    case c3 => have := HK.out.size; simp; omega
    intro A3 cap3 w3 hO3 hg3 hat3
    have hBg : Blk w3 w.heap.size 34 #[.slice Ad i cap] := (hB.alloc _).grown hg3 (Ne.symm hne'.out)
    have hgc := hBg.cell 0
    have hgf := hBg.frozen 0
    have hgl3 := hBg.lt
    have hA3l : A3 < w3.heap.size := (OwnL.block hO3 A3 rfl).2
    have hne3 : A3 ≠ w.heap.size := fun e => hat3.elim (fun h => hne'.out (by rw [h, e])) (fun h => by first | omega | (simp at h; omega))
    have hs3 : A2.heap.size + 1 ≤ w3.heap.size := by have := hg3.size; simpa using this
    have hke : Kept O A2 (w3.setCell ⟨w.heap.size, 0, none⟩ (.slice (some ⟨A3, 0, none⟩) (i + 1) cap3)) :=
      ((Kept.alloc _ _ _).trans (Kept.grown hg3 (fun k hk => (hOO'.out k).2 (.inr hk)))).trans (Kept.setCell _ _ _ ((hOO'.out _).2 (.inl rfl)))
    have hfin : ColSt IntR 1 (w3.setCell ⟨w.heap.size, 0, none⟩ (.slice (some ⟨A3, 0, none⟩) (i + 1) cap3)) w.heap.size 34 w.heap.size 3 (L.take (i + 1)) (fun k => k = w.heap.size ∨ A3 = k) := by
      rw [take_snoc_get HX.out]
      refine ⟨some ⟨A3, 0, none⟩, cap3, ?_, ?_, fun k => by simp [Value.ownBlock], by simp [Value.ownBlock]; exact hne3⟩
      · rw [List.length_append, HT.out]; exact hBg.set_ 0 _
      · rw [List.length_append, HT.out]
        exact hO3.keep IntR.good (Keeps.setCell _ _ _ (fun h => h.elim (fun h => h) (fun h => hne3 (by simpa [Value.ownBlock] using h))))
    have HKE := Lib.hid hke
    have HFIN := Lib.hid hfin
    clear hke hfin hO3 hg3 hO hB hc
    gi_wp2
    refine ⟨HKE.out, _, ?_, HFIN.out⟩
    intro k hk
    rcases hk with rfl | rfl
    · exact .inl ((hOO'.out _).2 (.inl rfl))
    · rcases hat3 with h | h
      · exact .inl ((hOO'.out _).2 (.inr h))
      · refine .inr ⟨by first | omega | (simp at h; omega), by simpa [World.setCell] using hA3l⟩
  case done =>
    rintro O W' D hj hO hK hD hnD hDb
    rw [List.take_length] at hj
    have hBW : Below w.heap.size w W' := hbl hK
    obtain ⟨Ad, cap, hB, hOw, hOO, _⟩ := hj.st
    have hc := hB.cell 0
    have hOp : OwnL IntR 1 (fun _ => False) (W'.putObj D (.deferred none)) w.heap.size 3 (.slice Ad L.length cap) L :=
      hOw.keep IntR.good ⟨by simp, fun k hk _ => World.putObj_heap_other (fun e => hk.elim (fun h => h) (fun h => hnD ((hOO D).2 (.inr (e ▸ h)))))⟩
    have HOp := Lib.hid hOp
    clear hOw hOp hOO
    gi_wp2
    refine ⟨by simp, .inl ⟨_, _, rfl, run_takeDeferred hDb, ?_⟩⟩
    have hS := HOp.out.slice (T := fun k => w.heap.size ≤ k) IntR.good rfl (by simp only [maxLen]; omega) (fun _ h => h.elim) (fun _ h _ => h)
    exact ⟨_, results_tmp rfl _ _ _, _, _, ⟨_, rfl⟩, hS, bl_put hBW (by omega) _⟩

theorem collectI_any {gf : Nat} {lb : Array Value} (eg : ∀ args w, (callFunc gf args).run Tryd.prog w = .ok (.enter gf args) w) {L : List Int} {Inv : World → Prop} (hseq : SeqL Tryd.prog gf lb (fun i : Int => #[.int .i64 i]) L Inv) (w : World)
    (hInv : ∀ A, Below w.heap.size w A → Inv A) (hL : L.length ≤ 100000) :
    Calls Tryd.prog 71 #[.func (.func gf) #[] lb] w fun e w' => ∃ A' n' c', e = .returned (.slice A' n' c') ∧ Ints (fun k => w.heap.size ≤ k) w' A' n' L ∧ Below w.heap.size w w' := by
  have HC := Lib.hid (appendSeqI_any eg hseq w hInv hL)
  clear hseq hInv eg
  go_enter Tryd.func71, Tryd.ntmps71
  go_wp2_with (go_at_call 97; refine HC.out.mono ?_; rintro e w' ⟨A', n', c', rfl, hI, hb⟩)
  go_ret
  exact ⟨_, _, _, rfl, hI, hb⟩

end Go.Proofs.YtkbpmcpmcmnfgaaDoor
