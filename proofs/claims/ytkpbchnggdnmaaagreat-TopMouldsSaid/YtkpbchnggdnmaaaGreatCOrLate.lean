/- A part of the proof that TopMoulds always answers true. -/
import Derived.Test.YtkpbchnggdnmaaaGreatCOrNeed
import Derived.Test.YtkpbchnggdnmaaaGreatCRegion9
set_option linter.all false
namespace Go.Proofs.YtkpbchnggdnmaaaGreat
open Go.RowKit Go.Shelf Go.Maps
attribute [local go_sem] Oper.semAt_some
theorem eg_worked : Enters Tryz.prog 84 := enters_of Tryz.func84 (by kernel_rfl) rfl
theorem up_get (s : Shop11) {k : Nat} (h : k < s.hours.length) : (upL s)[k]? = some (upN s k) := by
 unfold upL
 rw [List.getElem?_map, List.getElem?_range h]; rfl
theorem oworked_any {s : Shop11} {B g kb d : Nat} {H P Q : Option Addr} {hn hc pn pc on oc : Nat} (w : World) (L : LookK w B g kb H hn hc P pn pc Q on oc s) (hd : d < hn) :
  Calls Tryz.prog 84 #[.pointer (some ⟨g, 0, none⟩), .int .i64 (d : Int)] w fun e w' => e = .returned (.int .i64 (upN s d)) ∧ w' = w := by
 obtain ⟨U, uc, X, S, I⟩ := L.st
 have hdi : (d : Int) < hn := by omega
 have hle := I.le
 have hl := S.hs.len
 obtain ⟨b, off, x, rfl, hcx, Hx⟩ := Ints.get I hd
 have hx : x = upN s d := by
  have h1 := up_get s (k := d) (by omega)
  rw [Hx.out] at h1
  exact Option.some.inj h1
 have x3 := X.cell 3
 clear X S I hl
 go_enter Tryz.func84, Tryz.ntmps84
 go_wp2
 go_ret
 exact ⟨rfl, rfl⟩
theorem castI_bd {s : Shop11} (hok : Ok11 s) (i : Nat) {n : Int} (h0 : 0 ≤ n ∧ n ≤ 450) : 0 ≤ castI s i n ∧ castI s i n ≤ 460 := by
 unfold castI
 split
 ·rename_i h
  obtain ⟨⟨a1, a2⟩, _, b1, b2⟩ := hok.parts _ (List.getElem_mem h)
  rw [getD_of (List.getElem?_eq_getElem h)]
  unfold castN
  rw [Int.tdiv_eq_ediv_of_nonneg (by omega)]
  refine ⟨Int.ediv_nonneg (by omega) (by omega), ?_⟩
  have := Int.ediv_le_self (a := max 0 (n - (s.parts[i]).stock + (s.parts[i]).batch - 1)) (s.parts[i]).batch (by omega)
  omega
 omega
theorem cast_bd {s : Shop11} (hok : Ok11 s) {l : List Ord11} (hl : ∀ o ∈ l, OrdOk s o) (h9 : l.length ≤ 9) (k i : Nat) : 0 ≤ (castP s (dueK l k)).getD i 0 ∧ (castP s (dueK l k)).getD i 0 ≤ 460 := by
 rw [list3 (dueK_len l k), castP_three]
 have a0 := castI_bd hok 0 (due_bd hok hl h9 k 0)
 have a1 := castI_bd hok 1 (due_bd hok hl h9 k 1)
 have a2 := castI_bd hok 2 (due_bd hok hl h9 k 2)
 rcases i with _ | _ | _ | i
 ·exact a0
 ·exact a1
 ·exact a2
 simp
def takesU (s : Shop11) (c : List Int) (k : Nat) : Int := (List.range k).foldl (fun n i => n + c.getD i 0 * (s.parts.getD i dPart).long) 0
theorem takesU_succ (s : Shop11) (c : List Int) (k : Nat) : takesU s c (k + 1) = takesU s c k + c.getD k 0 * (s.parts.getD k dPart).long := by
 unfold takesU
 rw [List.range_succ, List.foldl_append]; rfl
theorem mul_bd {a b : Int} (h1 : 0 ≤ a ∧ a ≤ 460) (h2 : 1 ≤ b ∧ b ≤ 48) : 0 ≤ a * b ∧ a * b ≤ 22080 := by
 refine ⟨Int.mul_nonneg h1.1 (by omega), ?_⟩
 have h3 : a * b ≤ 460 * b := Int.mul_le_mul_of_nonneg_right h1.2 (by omega)
 omega
theorem takesU_bd {s : Shop11} (hok : Ok11 s) {c : List Int} (hc : ∀ i, 0 ≤ c.getD i 0 ∧ c.getD i 0 ≤ 460) : ∀ k, k ≤ s.parts.length → 0 ≤ takesU s c k ∧ takesU s c k ≤ 22080 * k
 | 0, _ => by simp [takesU]
 | k + 1, h => by
  have ih := takesU_bd hok hc k (by omega)
  have hk : k < s.parts.length := by omega
  obtain ⟨_, b, _⟩ := hok.parts _ (List.getElem_mem hk)
  rw [takesU_succ, getD_of (List.getElem?_eq_getElem hk)]
  have := mul_bd (hc k) b
  push_cast
  omega
theorem osetCell_noop {w : World} {g : Nat} {t : TypeId} {v : Value} (h : Blk w g t #[v]) : w.setCell ⟨g, 0, none⟩ v = w := by
 have hh : (w.setCell ⟨g, 0, none⟩ v).heap = w.heap := by
  apply Array.ext_getElem?
  intro k
  by_cases e : k = g
  ·subst e
   have h2 := h.set_ 0 v
   exact h2.trans h.symm
  exact Below.heap_setCell w ⟨g, 0, none⟩ v k e
 show ({ w with heap := (w.setCell ⟨g, 0, none⟩ v).heap } : World) = w
 rw [hh]
theorem upN_bd {s : Shop11} (hok : Ok11 s) (i : Nat) : 0 ≤ upN s i ∧ upN s i ≤ 480 := by
 have h := sum_bd (l := s.hours.take (i + 1)) (fun y hy => hok.hours y (List.mem_of_mem_take hy))
 have := hok.nh
 rw [List.length_take] at h
 unfold upN
 omega
theorem lateF_here {s : Shop11} {d : Nat} {c : List Int} : ∀ {L : List (Nat × List Int)} {i : Nat}, L[i]? = some (d, c) → (∀ j y, j < i → L[j]? = some y → takesN s y.2 ≤ upN s y.1) → upN s d < takesN s c → lateF s L = ((d : Int), takesN s c - upN s d)
 | [], i, h, _, _ => by simp at h
 | (d0, c0) :: r, 0, h, _, hl => by
  simp at h
  obtain ⟨rfl, rfl⟩ := h
  rw [lateF, if_pos hl]
 | (d0, c0) :: r, i + 1, h, hn, hl => by
  have h0 := hn 0 (d0, c0) (by omega) rfl
  rw [lateF, if_neg (Int.not_lt.2 h0)]
  exact lateF_here (by simpa using h) (fun j y hj hy => hn (j + 1) y (by omega) (by simpa using hy)) hl
theorem lateF_none {s : Shop11} : ∀ {L : List (Nat × List Int)}, (∀ j y, j < L.length → L[j]? = some y → takesN s y.2 ≤ upN s y.1) → lateF s L = (0, 0)
 | [], _ => rfl
 | (d0, c0) :: r, hn => by
  rw [lateF, if_neg (Int.not_lt.2 (hn 0 (d0, c0) (by simp) rfl))]
  exact lateF_none (fun j y hj hy => hn (j + 1) y (by simpa using hj) (by simpa using hy))
def LateJ (s : Shop11) (l : List Ord11) (g4 g5 : Nat) (i : Nat) (O : Foot) (A : World) : Prop :=
 (∀ k, O k ↔ (k = g4 ∨ k = g5)) ∧ Blk A g4 3 #[.int .i64 0] ∧ Blk A g5 3 #[.int .i64 0] ∧ ∀ j y, j < i → (daysL s l)[j]? = some y → takesN s y.2 ≤ upN s y.1
def LateX (s : Shop11) (l : List Ord11) (g4 g5 : Nat) (cd : Code) (O : Foot) (A : World) : Prop :=
 cd = .ret ∧ (∀ k, O k ↔ (k = g4 ∨ k = g5)) ∧ Blk A g4 3 #[.int .i64 (lateR s l).1] ∧ Blk A g5 3 #[.int .i64 (lateR s l).2]
theorem olate_results {w : World} {tmps : Array Value} {g4 g5 : Nat} {a b : Int} (h4 : Blk w g4 3 #[.int .i64 a]) (h5 : Blk w g5 3 #[.int .i64 b]) (t4 : tmps.getD 4 undef = .pointer (some ⟨g4, 0, none⟩)) (t5 : tmps.getD 5 undef = .pointer (some ⟨g5, 0, none⟩)) :
  (results Tryz.f55 tmps).run Tryz.prog w = .ok (.tuple #[.int .i64 a, .int .i64 b]) w := by
 have c4 := h4.cell 0
 have c5 := h5.cell 0
 rw [Array.getD_eq_getD_getElem?] at t4 t5
 simp [results, Tryz.results55, asAddr, go_sem, t4, t5, c4, c5]
set_option maxHeartbeats 4000000 in
set_option maxRecDepth 100000 in
theorem olate_any {s : Shop11} {l : List Ord11} {B g kb N : Nat} {H P Q L : Option Addr} {hn hc pn pc on oc ln lc : Nat} (hok : Ok11 s) (hlo : ∀ o ∈ l, OrdOk s o) (hl9 : l.length ≤ 9) (hN : N ≤ 900000) (w : World) (LK : LookK w B g kb H hn hc P pn pc Q on oc s) (M : MapC s w kb N) (HO : Ords11 (fun k => k ≠ kb ∧ k < B) w L ln l) :
  Calls Tryz.prog 55 #[.pointer (some ⟨g, 0, none⟩), .slice L ln lc] w fun e w' => e = .returned (.tuple #[.int .i64 (lateR s l).1, .int .i64 (lateR s l).2]) ∧ Kept (fun k => k = kb) w w' ∧ MapC s w' kb (N + 20) := by
 obtain ⟨U0, uc0, _, hS0, _⟩ := LK.st
 have hhn := hS0.hs.len
 have hpn := hS0.ps.len
 have hnp := hok.np
 have hpn3 : pn ≤ 3 := by omega
 have HHN := Lib.hid hhn
 have HPN := Lib.hid hpn
 have hple := hS0.ps.le
 obtain ⟨gb, hgb⟩ : ∃ q, w.heap.size = q := ⟨_, rfl⟩
 obtain ⟨W, hW⟩ : ∃ W, ((w.alloc (.cells #[.pointer (some ⟨g, 0, none⟩)] 90)).alloc (.cells #[.int .i64 0] 3)).alloc (.cells #[.int .i64 0] 3) = W := ⟨_, rfl⟩
 obtain ⟨W1, hW1⟩ : ∃ V, W.alloc (.cells #[.func (.func 84) #[.pointer (some ⟨g, 0, none⟩)] #[]] 157) = V := ⟨_, rfl⟩
 have hsW : W.heap.size = gb + 3 := by rw [← hW, ← hgb]; simp
 have hsW1 : W1.heap.size = gb + 4 := by rw [← hW1]; simp [hsW]
 have X0 : Blk W gb 90 #[.pointer (some ⟨g, 0, none⟩)] := by rw [← hW]; exact ((Blk.new _ _ _ hgb.symm).alloc _).alloc _
 have X4 : Blk W (gb + 1) 3 #[.int .i64 0] := by rw [← hW]; exact (Blk.new _ _ _ (by simp [hgb])).alloc _
 have X5 : Blk W (gb + 2) 3 #[.int .i64 0] := by rw [← hW]; exact Blk.new _ _ _ (by simp [hgb])
 have X6 : Blk W1 (gb + 3) 157 #[.func (.func 84) #[.pointer (some ⟨g, 0, none⟩)] #[]] := by rw [← hW1]; exact Blk.new _ _ _ hsW.symm
 have x0 := X0.cell 0
 have y0 : W1.cell? ⟨gb, 0, none⟩ = some (.pointer (some ⟨g, 0, none⟩)) := by rw [← hW1]; exact oldc x0
 have hK1 : Kept (fun _ => False) w W1 := by rw [← hW1, ← hW]; exact (((Kept.alloc _ _ _).trans (Kept.alloc _ _ _)).trans (Kept.alloc _ _ _)).trans (Kept.alloc _ _ _)
 have Y0 : Blk W1 gb 90 #[.pointer (some ⟨g, 0, none⟩)] := by rw [← hW1]; exact X0.alloc _
 have Y4 : Blk W1 (gb + 1) 3 #[.int .i64 0] := by rw [← hW1]; exact X4.alloc _
 have Y5 : Blk W1 (gb + 2) 3 #[.int .i64 0] := by rw [← hW1]; exact X5.alloc _
 have HOK := Lib.hid hok
 have HLO := Lib.hid hlo
 have HLK := Lib.hid LK
 have HM := Lib.hid M
 have HOO := Lib.hid HO
 have hkb : kb < gb := by rw [← hgb]; exact M.lt
 have hBg : B ≤ gb := by rw [← hgb]; exact LK.le
 have HY0 := Lib.hid Y0
 have HY4 := Lib.hid Y4
 have HY5 := Lib.hid Y5
 have HX6 := Lib.hid X6
 have HK1 := Lib.hid hK1
 clear hhn hpn hok hlo LK M HO X0 X4 X5 X6 Y0 Y4 Y5 hK1 hS0
 refine (callsIn_wide (n := 1)).1 ?_
 refine callsIn_of_wp_marks Tryz.func55 rfl trivial ?_ rfl
 simp only [Tryz.ntmps55, List.size_toArray, List.length_cons, List.length_nil, Nat.reduceAdd, Nat.reduceSub, Array.replicate_succ, Array.replicate_zero, List.push_toArray, List.append_toArray, List.nil_append, List.cons_append]
 gi_wp2_with fail
 refine ⟨trivial, ?_⟩
 clear x0 hW hW1
 refine (callsIn_wide.2 (odays_any W1)).mono ?_
 rintro e w' ⟨rfl, hw'⟩
 obtain ⟨V3, hV3⟩ : ∃ V, V = w' := ⟨_, rfl⟩
 rw [← hV3] at hw' ⊢
 clear hV3
 have b13 : Below W1.heap.size W1 V3 := by rw [hw']; exact bl_alloc (bl_alloc (Below.refl _ _) _ (Nat.le_refl _)) _ (Nat.le_refl _)
 have S3 : Blk V3 (gb + 4) 90 #[.pointer (some ⟨g, 0, none⟩)] := by rw [hw', ← hsW1]; exact (Blk.new _ _ _ rfl).alloc _
 have L3 : Blk V3 (gb + 4 + 1) 29 #[.slice L ln lc] := by rw [hw', ← hsW1]; exact Blk.new _ _ _ (by simp)
 have hs3 : V3.heap.size = gb + 6 := by rw [hw']; simp [hsW1]
 rw [hsW1]
 clear hw' y0
 obtain ⟨g4, hg4⟩ : ∃ q, gb + 1 = q := ⟨_, rfl⟩
 obtain ⟨g5, hg5⟩ : ∃ q, g4 + 1 = q := ⟨_, rfl⟩
 rw [hg4, hg5]
 rw [hg4] at HY4
 rw [show gb + 2 = g5 by omega] at HY5
 gi_wp2_with fail
 have hK3 : Kept (fun _ => False) w V3 := HK1.out.trans (Kept.of_bl b13)
 have K3 : LookK V3 B g kb H hn hc P pn pc Q on oc s := HLK.out.keptM hK3 (fun _ _ h => h.elim)
 have M3 : MapC s V3 kb N := HM.out.at (hK3.block kb HM.out.lt (fun h => h))
 have Y0 : Blk V3 gb 90 #[.pointer (some ⟨g, 0, none⟩)] := HY0.out.bl b13
 have Y4 : Blk V3 g4 3 #[.int .i64 0] := HY4.out.bl b13
 have Y5 : Blk V3 g5 3 #[.int .i64 0] := HY5.out.bl b13
 have Y6 : Blk V3 (gb + 3) 157 #[.func (.func 84) #[.pointer (some ⟨g, 0, none⟩)] #[]] := HX6.out.bl b13
 have O3 : Ords11 (fun k => k ≠ kb ∧ k < B) V3 L ln l := HOO.out.keep OrR11.good ⟨hK3.size, fun k hs hlt => hK3.block k hlt (fun h => h)⟩
 have hgB := K3.lt
 have HK3 := Lib.hid K3
 have HO3 := Lib.hid O3
 have HS3 := Lib.hid S3
 have HL3 := Lib.hid L3
 have HKW := Lib.hid hK3
 have HZ0 := Lib.hid Y0
 have HZ6 := Lib.hid Y6
 clear b13 hK3 K3 O3 S3 L3 Y0 Y6
 have hInv : ∀ A, Kept (fun k => (k = g4 ∨ k = g5) ∨ k = kb ∨ V3.heap.size ≤ k) V3 A → DaysInv (gb + 4) (gb + 4 + 1) B g kb H hn hc P pn pc Q on oc s L ln lc l A := fun A hK =>
  ⟨HS3.out.kept hK (by omega), HL3.out.kept hK (by omega), HK3.out.keptM hK (fun k hk h => by omega), HO3.out.keep OrR11.good ⟨hK.size, fun k hs hlt => hK.block k hlt (fun h => by have := hs.1; have := hs.2; omega)⟩⟩
 have HINV := Lib.hid hInv
 clear hInv
 have HFIN : Hid (∀ A, Kept (fun k => (k = g4 ∨ k = g5) ∨ k = kb ∨ V3.heap.size ≤ k) V3 A → Kept (fun k => k = kb) w A) := fun A hK => by
  have hz := HKW.out.size
  refine HKW.out.any.seq hK (fun k hk h => ?_)
  rw [hgb] at hk
  omega
 refine rangeFunc_outerM (m := 1) (gf := 65) (lb := #[.pointer (some ⟨gb + 4, 0, none⟩), .pointer (some ⟨gb + 4 + 1, 0, none⟩)]) rfl eg_days1 (days_seq (kb := kb) HOK.out HLO.out hl9 (N := N) hN) (fun _ => rfl) (fun k => k = g4 ∨ k = g5) (LateJ s l g4 g5) (LateX s l g4 g5) (fun k h => by omega) (fun k h h2 => by omega) (fun k h => by omega) (fun A B hs hlt hK => hs.at (hK.block kb hs.lt (fun h => h rfl))) (fun A B hs hlt hK => hs.at (hK.block kb hs.lt (fun h => h rfl))) M3 (fun A hK => HINV.out A hK) ?stay ?stayx ⟨fun k => Iff.rfl, Y4, Y5, fun j y h => by omega⟩ ?round ?done ?stop
 case stay =>
  rintro i O A B ⟨hO, b4, b5, hn⟩ hlt hK
  exact ⟨hO, b4.kept hK (fun h => h ((hO _).2 (.inl rfl))), b5.kept hK (fun h => h ((hO _).2 (.inr rfl))), hn⟩
 case stayx =>
  rintro cd O A B ⟨hc, hO, b4, b5⟩ hlt hK
  exact ⟨hc, hO, b4.kept hK (fun h => h ((hO _).2 (.inl rfl))), b5.kept hK (fun h => h ((hO _).2 (.inr rfl)))⟩
 case round =>
  intro lp i x O A1 hx hj hlt hsub hK hsA hnl hlA hWl
  obtain ⟨hO, j4, j5, hno⟩ := hj
  have hil := of_getq' hx
  rw [days_len] at hil
  have hx9 := hx
  rw [days_get s l hil] at hx
  injection hx with hx
  subst hx
  have HX9 := Lib.hid hx9
  have HOF := Lib.hid hO
  have HNO := Lib.hid hno
  have HK := Lib.hid hK
  have hkeys := days_len s l
  obtain ⟨D, hD⟩ : ∃ d, castP s (dueK l i) = d := ⟨_, rfl⟩
  have hcb := cast_bd HOK.out HLO.out hl9 i
  rw [hD] at hcb
  rw [hD] at HX9 ⊢
  have HCB := Lib.hid hcb
  obtain ⟨c0, hc0⟩ : ∃ c, D.getD 0 0 = c := ⟨_, rfl⟩
  obtain ⟨c1, hc1⟩ : ∃ c, D.getD 1 0 = c := ⟨_, rfl⟩
  obtain ⟨c2, hc2⟩ : ∃ c, D.getD 2 0 = c := ⟨_, rfl⟩
  have hE : encD (i, D) = #[.int .i64 (i : Int), .agg #[.int .i64 c0, .int .i64 c1, .int .i64 c2]] := by rw [← hc0, ← hc1, ← hc2]; rfl
  have HC3 : Hid (∀ k, k < 3 → #[Value.int .i64 c0, .int .i64 c1, .int .i64 c2][k]? = some (.int .i64 (D.getD k 0))) := by
   intro k hk
   rcases (show k = 0 ∨ k = 1 ∨ k = 2 by omega) with rfl | rfl | rfl
   ·rw [hc0]; rfl
   ·rw [hc1]; rfl
   rw [hc2]; rfl
  have hin : i < hn := by rw [HHN.out] at hil; exact hil
  clear hx9 hO hno hK hD hcb hc0 hc1 hc2
  rw [hE, ofold2]
  simp only [List.setIfInBounds_toArray]
  try simp only [List.set_cons_zero, List.set_cons_succ]
  gi_wp2
  refine ⟨Kept.alloc _ _ _, fun A2 hK2 hs2' r2 hr2 => ?_⟩
  clear hr2
  try simp only [World.size_alloc] at hs2'
  have hs2a : A2.heap.size = A1.heap.size + 1 := by omega
  have kA : Kept (fun k => k = lp) A1 A2 := (Kept.alloc (fun k => k = lp) A1 (.cells #[.int .i64 c0, .int .i64 c1, .int .i64 c2] 94)).trans hK2
  have hC2 : Blk A2 A1.heap.size 94 #[.int .i64 c0, .int .i64 c1, .int .i64 c2] := (hK2.block A1.heap.size (by simp) (by omega)).trans (Blk.new _ _ _ rfl)
  have hK3 : Kept (fun k => (k = g4 ∨ k = g5) ∨ k = kb ∨ V3.heap.size ≤ k) V3 A2 := HK.out.seq kA (fun k _ h => .inr (.inr (h ▸ hWl)))
  have b4 : Blk A2 g4 3 #[.int .i64 0] := j4.kept kA (fun e => hnl (e ▸ (HOF.out _).2 (.inl rfl)))
  have b5 : Blk A2 g5 3 #[.int .i64 0] := j5.kept kA (fun e => hnl (e ▸ (HOF.out _).2 (.inr rfl)))
  have b0 : Blk A2 gb 90 #[.pointer (some ⟨g, 0, none⟩)] := HZ0.out.kept hK3 (by omega)
  have b6 : Blk A2 (gb + 3) 157 #[.func (.func 84) #[.pointer (some ⟨g, 0, none⟩)] #[]] := HZ6.out.kept hK3 (by omega)
  have hLK2 := (HINV.out A2 hK3).2.2.1
  obtain ⟨gC, hgC⟩ : ∃ q, A1.heap.size = q := ⟨_, rfl⟩
  rw [hgC] at hC2 hs2a
  rw [hgC]
  obtain ⟨U, uc, XG, SG, IG⟩ := hLK2.st
  have HL2 := Lib.hid hLK2
  have HC2 := Lib.hid hC2
  have H4 := Lib.hid b4
  have H5 := Lib.hid b5
  have H0 := Lib.hid b0
  have H6 := Lib.hid b6
  have HSG := Lib.hid SG
  have x0 := b0.cell 0
  have y1 := XG.cell 1
  have HGC := Lib.hid hgC
  have hO4 : ∀ k, O k → k < A1.heap.size := hlt
  clear hK2 hK3 kA j4 j5 b4 b5 b0 b6 hC2 XG SG IG hLK2 hs2' hlt hgC
  gi_wp2_with fail
  clear x0 y1
  gi_loopw [9, 10, 11, 25] (fun nv _ _ i' wr => ∃ k : Nat, k ≤ pn ∧ i' = .int .i64 k ∧ nv = .int .i64 (takesU s D k) ∧ Hid (Below A2.heap.size A2 wr)) (fun _ _ _ i' _ => pn - (intOf i').toNat)
  case atStart => exact ⟨0, Nat.zero_le _, rfl, rfl, Below.refl _ _⟩
  obtain ⟨wo, hwo⟩ : ∃ V, V = wr := ⟨_, rfl⟩
  rw [← hwo] at hrel ⊢
  clear hwo
  obtain ⟨k, hk, rfl, rfl, HB⟩ := hrel
  obtain ⟨n0, hn0⟩ : ∃ n, takesU s D k = n := ⟨_, rfl⟩
  have hub := takesU_bd HOK.out HCB.out k (by rw [HPN.out]; exact hk)
  rw [hn0] at hub
  rw [hn0]
  have HN0 := Lib.hid hn0
  clear hn0
  by_cases hlt : k < pn
  ·have hki : (k : Int) < pn := by omega
   have hk3 : k < 3 := by omega
   have hk3i : (k : Int) < 3 := by omega
   obtain ⟨b, off, nm, pa, pz, py, rfl, hbb, p0, p1, p2, p3, hs, Hx⟩ := Parts.get (HSG.out.ps.keep PartR.good (Keeps.below HB.out)) hlt
   obtain ⟨_, q2, _⟩ := HOK.out.parts _ (List.mem_of_getElem? Hx.out)
   dsimp only at q2
   obtain ⟨v, hv⟩ : ∃ v, D.getD k 0 = v := ⟨_, rfl⟩
   have hvb := HCB.out k
   rw [hv] at hvb
   have hmb := mul_bd hvb q2
   obtain ⟨m, hm⟩ : ∃ m, v * pz = m := ⟨_, rfl⟩
   rw [hm] at hmb
   have hnb : k ≤ 3 := by omega
   have w1 : IntKind.i64.wrap m = m := by rw [IntKind.wrap_i64]; omega
   have w2 : IntKind.i64.wrap (n0 + m) = n0 + m := by rw [IntKind.wrap_i64]; omega
   have HSC : Hid (takesU s D (k + 1) = n0 + m) := by rw [Hid, takesU_succ, HN0.out, hv, getD_of Hx.out, hm]
   have hcv : wo.cell? ⟨gC, k, none⟩ = some (.int .i64 v) := by
    rw [(HC2.out.bl HB.out).cell k, HC3.out k hk3, hv]
   obtain ⟨gP, hgP⟩ : ∃ q, wo.heap.size = q := ⟨_, rfl⟩
   obtain ⟨V, hV⟩ : ∃ V, wo.alloc (.cells #[.string nm, .int .i64 pa, .int .i64 pz, .int .i64 py] 58) = V := ⟨_, rfl⟩
   have XV : Blk V gP 58 #[.string nm, .int .i64 pa, .int .i64 pz, .int .i64 py] := by rw [← hV]; exact Blk.new _ _ _ hgP.symm
   have HBV : Hid (Below A2.heap.size A2 V) := by rw [Hid, ← hV]; exact bl_alloc HB.out _ (Nat.le_refl _)
   have hcV : V.cell? ⟨gC, k, none⟩ = some (.int .i64 v) := by rw [← hV]; exact oldc hcv
   have kk : Hid (∀ U, Below V.heap.size V U → U.cell? ⟨gC, k, none⟩ = some (.int .i64 v) ∧ U.cell? ⟨gP, 2, none⟩ = some (.int .i64 pz)) := fun U hb => ⟨getc hb hcV, (XV.bl hb).cell 2⟩
   clear hv hcv hcV XV hvb q2
   gi_wp2_with fail
   clear p0 p1 p2 p3 hV hgP
   refine wpIn_region_list1 (F := Fence.wide.inRound lp) (r := some lp) rfl (fun W => Below V.heap.size V W) (fun w w' => Below w.heap.size w w')
    [isV (.int .i64 n0), isV (.int .i64 (k : Int)), isV (.pointer (some ⟨gC, k, none⟩)), isV (.int .i64 v), isV (.pointer (some ⟨gP, 2, none⟩)), isV (.int .i64 pz), isV (.int .i64 m), isV (.int .i64 (n0 + m))]
    (by kernel_rfl) (by kernel_rfl) (by kernel_rfl) (by simp) (by simp) (Below.refl _ _).drew ?stab ?step ?fin
   case stab => exact (StabL.is (StabL.is (StabL.is (StabL.is (StabL.is (StabL.is (StabL.is (StabL.is StabL.nil))))))))
   case step =>
    refine StepsL.is ?_ (StepsL.is ?_ (StepsL.is ?_ (StepsL.is ?_ (StepsL.is ?_ (StepsL.is ?_ (StepsL.is ?_ (StepsL.is ?_ StepsL.nil)))))))
    all_goals
     intro vs W K hC hD hU hK
     simp only [fillA, Act.put, List.setIfInBounds_toArray, List.set_cons_zero, List.set_cons_succ, Nat.zero_add, Nat.reduceAdd] at hK ⊢
     simp [waits, Region.binds] at hD
     try simp only [envOf, List.getD_cons_succ, List.getD_cons_zero, isV] at hD
     try simp only [hD] at hK ⊢
    ·have q8 : vs 8 = .int .i64 n0 := hU 8 _ rfl (by simp [waits, Region.binds])
     simp only [q8] at hK ⊢
     go_simp
     exact hK _ hC (Below.refl _ _)
    ·go_simp; exact hK _ hC (Below.refl _ _)
    ·go_simp; exact hK _ hC (Below.refl _ _)
    ·obtain ⟨k0, k1⟩ := kk.out W hC
     go_simp
     exact hK _ hC (Below.refl _ _)
    ·go_simp; exact hK _ hC (Below.refl _ _)
    ·obtain ⟨k0, k1⟩ := kk.out W hC
     go_simp
     exact hK _ hC (Below.refl _ _)
    ·go_simp; exact hK _ hC (Below.refl _ _)
    go_simp; exact hK _ hC (Below.refl _ _)
   intro vs W hC hE hU
   have e7 := hE 7 (by simp)
   simp only [envOf, List.getD_cons_succ, List.getD_cons_zero, isV] at e7
   simp only [fillA, Act.put, List.setIfInBounds_toArray, List.set_cons_zero, List.set_cons_succ, Nat.zero_add, Nat.reduceAdd, e7]
   generalize vs 0 = u0, vs 1 = u1, vs 2 = u2, vs 3 = u3, vs 4 = u4, vs 5 = u5, vs 6 = u6
   have HWV := Lib.hid hC
   clear hE hU hC e7
   go_simp
   gi_wp2_with fail
   exact ⟨⟨k + 1, by omega, by go_num, by rw [HSC.out], bl_call HBV.out HWV.out (Nat.le_refl _)⟩, by simp [intOf]; omega⟩
  obtain rfl : k = pn := by omega
  obtain ⟨up, hup⟩ : ∃ u, upN s i = u := ⟨_, rfl⟩
  have hub2 := upN_bd HOK.out i
  rw [hup] at hub2
  have HT : Hid (takesN s D = n0) := by rw [Hid, ← HN0.out, takesU, takesN, HPN.out]
  have HW9 : Hid (∀ V, Below wo.heap.size wo V → Calls Tryz.prog 84 #[.pointer (some ⟨g, 0, none⟩), .int .i64 (i : Int)] V fun e w' => e = .returned (.int .i64 up) ∧ w' = V) := fun V hb => by
   have := oworked_any V (HL2.out.bl (bl_call HB.out hb (Nat.le_refl _))) hin
   rwa [hup] at this
  have hl4 : g4 < wo.heap.size := (H4.out.bl HB.out).lt
  have hl5 : g5 < wo.heap.size := (H5.out.bl HB.out).lt
  have z6 := (H6.out.bl HB.out).cell 0
  have HUP := Lib.hid hup
  have HKB : Hid (Kept O A2 wo) := Kept.of_bl HB.out
  have eg6 := eg_worked
  clear hup
  by_cases hlate : up < n0
  ·have hwd : IntKind.i64.wrap (n0 - up) = n0 - up := by rw [IntKind.wrap_i64]; omega
   have HLR : Hid (lateR s l = ((i : Int), n0 - up)) := by
    have h := lateF_here (s := s) HX9.out HNO.out (by rw [HUP.out, HT.out]; exact hlate)
    rw [Hid, lateR, h, HUP.out, HT.out]
   obtain ⟨V4, hV4⟩ : ∃ V, wo.setCell ⟨g4, 0, none⟩ (.int .i64 (i : Int)) = V := ⟨_, rfl⟩
   obtain ⟨V5, hV5⟩ : ∃ V, V4.setCell ⟨g5, 0, none⟩ (.int .i64 (n0 - up)) = V := ⟨_, rfl⟩
   have q4 := (H4.out.bl HB.out).cell 0
   have f4 := (H4.out.bl HB.out).frozen 0
   have B5 : Blk V4 g5 3 #[.int .i64 0] := by rw [← hV4]; exact (H5.out.bl HB.out).far (by dsimp only; omega) _
   have q5 := B5.cell 0
   have f5 := B5.frozen 0
   have hlv : g5 < V4.heap.size := B5.lt
   have HX4 : Hid (Blk V5 g4 3 #[.int .i64 (i : Int)]) := by
    rw [Hid, ← hV5, ← hV4]
    exact ((H4.out.bl HB.out).set_ 0 _).far (by dsimp only; omega) _
   have HX5 : Hid (Blk V5 g5 3 #[.int .i64 (n0 - up)]) := by rw [Hid, ← hV5]; exact B5.set_ 0 _
   have HK5 : Hid (Kept O A2 V5) := by
    rw [Hid, ← hV5, ← hV4]
    exact (HKB.out.trans (Kept.setCell _ ⟨g4, 0, none⟩ _ ((HOF.out _).2 (.inl rfl)))).trans (Kept.setCell _ ⟨g5, 0, none⟩ _ ((HOF.out _).2 (.inr rfl)))
   clear B5
   gi_wp2_with fail
   refine ⟨trivial, ?_⟩
   refine (CallsIn.inRound lp (callsIn_wide.2 (HW9.out wo (Below.refl _ _)))).mono ?_
   rintro e w8 ⟨rfl, hw8⟩
   rw [hw8]
   clear hw8
   gi_wp2_with fail
   refine ⟨trivial, ?_⟩
   refine (CallsIn.inRound lp (callsIn_wide.2 (HW9.out wo (Below.refl _ _)))).mono ?_
   rintro e w8 ⟨rfl, hw8⟩
   rw [hw8]
   clear hw8
   gi_wp2_with fail
   exact ⟨HK5.out, O, fun q h => .inl h, rfl, HOF.out, by rw [HLR.out]; exact HX4.out, by rw [HLR.out]; exact HX5.out⟩
  have HNL : Hid (takesN s D ≤ upN s i) := by rw [Hid, HUP.out, HT.out]; exact Int.not_lt.1 hlate
  gi_wp2_with fail
  refine ⟨trivial, ?_⟩
  refine (CallsIn.inRound lp (callsIn_wide.2 (HW9.out wo (Below.refl _ _)))).mono ?_
  rintro e w8 ⟨rfl, hw8⟩
  rw [hw8]
  clear hw8
  gi_wp2_with fail
  refine ⟨HKB.out, O, fun q h => .inl h, HOF.out, H4.out.bl HB.out, H5.out.bl HB.out, fun j y hj hy => ?_⟩
  by_cases e : j = i
  ·subst e
   rw [HX9.out] at hy
   injection hy with hy
   rw [← hy]
   exact HNL.out
  exact HNO.out j y (by omega) hy
 case done =>
  rintro O W' D ⟨hO, b4, b5, hno⟩ hOs hK hsW hD hOD hDD
  have HLR : Hid (lateR s l = (0, 0)) := lateF_none hno
  have n4 : g4 ≠ D := fun e => hOD (e ▸ (hO _).2 (.inl rfl))
  have n5 : g5 ≠ D := fun e => hOD (e ▸ (hO _).2 (.inr rfl))
  have HKF : Hid (Kept (fun k => k = kb) w (W'.putObj D (.deferred none))) := (HFIN.out W' hK).seq (Kept.putObj (M := fun k => k = D) _ _ _ rfl) (fun q hq h => by omega)
  have HMF : Hid (MapC s (W'.putObj D (.deferred none)) kb (N + 20)) := hsW.at (World.putObj_heap_other (by omega))
  have HDB := Lib.hid hDD
  have s4 := osetCell_noop b4
  have s5 := osetCell_noop b5
  have c4 := b4.cell 0
  have f4 := b4.frozen 0
  have l4 := b4.lt
  have c5 := b5.cell 0
  have f5 := b5.frozen 0
  have l5 := b5.lt
  have HB4 := Lib.hid b4
  have HB5 := Lib.hid b5
  clear hO hno hOs hK hsW hOD hDD b4 b5
  gi_wp2
  refine ⟨by simp, .inl ⟨_, _, rfl, run_takeDeferred HDB.out, ?_⟩⟩
  exact ⟨_, olate_results ((World.putObj_heap_other n4).trans HB4.out) ((World.putObj_heap_other n5).trans HB5.out) rfl rfl, by rw [HLR.out], HKF.out, HMF.out⟩
 rintro cd O W' D ⟨rfl, hO, b4, b5⟩ hOs hK hsW hD hOD hDD
 have n4 : g4 ≠ D := fun e => hOD (e ▸ (hO _).2 (.inl rfl))
 have n5 : g5 ≠ D := fun e => hOD (e ▸ (hO _).2 (.inr rfl))
 have HKF : Hid (Kept (fun k => k = kb) w (W'.putObj D (.deferred none))) := (HFIN.out W' hK).seq (Kept.putObj (M := fun k => k = D) _ _ _ rfl) (fun q hq h => by omega)
 have HMF : Hid (MapC s (W'.putObj D (.deferred none)) kb (N + 20)) := hsW.at (World.putObj_heap_other (by omega))
 gi_wp2
 refine ⟨by simp, .inl ⟨_, _, rfl, run_takeDeferred hDD, ?_⟩⟩
 exact ⟨_, olate_results ((World.putObj_heap_other n4).trans b4) ((World.putObj_heap_other n5).trans b5) rfl rfl, rfl, HKF.out, HMF.out⟩
theorem ocan_any {s : Shop11} {l : List Ord11} {B g kb N : Nat} {H P Q L : Option Addr} {hn hc pn pc on oc ln lc : Nat} (hok : Ok11 s) (hlo : ∀ o ∈ l, OrdOk s o) (hl9 : l.length ≤ 9) (hN : N ≤ 900000) (w : World) (LK : LookK w B g kb H hn hc P pn pc Q on oc s) (M : MapC s w kb N) (HO : Ords11 (fun k => k ≠ kb ∧ k < B) w L ln l) :
  Calls Tryz.prog 56 #[.pointer (some ⟨g, 0, none⟩), .slice L ln lc] w fun e w' => e = .returned (.bool (decide ((lateR s l).2 = 0))) ∧ Kept (fun k => k = kb) w w' ∧ MapC s w' kb (N + 20) := by
 have hc := olate_any (lc := lc) hok hlo hl9 hN w LK M HO
 obtain ⟨a, ha⟩ : ∃ a, (lateR s l).1 = a := ⟨_, rfl⟩
 obtain ⟨b, hb⟩ : ∃ a, (lateR s l).2 = a := ⟨_, rfl⟩
 rw [ha, hb] at hc
 rw [hb]
 have HC := Lib.hid hc
 clear hc hok hlo hl9 hN LK M HO ha hb
 go_enter Tryz.func56, Tryz.ntmps56
 go_wp2_with fail
 refine HC.out.mono ?_
 rintro e w' ⟨rfl, h1, h2⟩
 have H1 := Lib.hid h1
 have H2 := Lib.hid h2
 clear h1 h2 HC
 by_cases h0 : b = 0
 ·subst h0
  go_wp2
  go_ret
  exact ⟨rfl, H1.out, H2.out⟩
 have h0b : (b == 0) = false := by simpa using h0
 have H0 := Lib.hid h0
 clear h0
 go_wp2
 go_ret
 exact ⟨ret_bool (decide_eq_false H0.out).symm, H1.out, H2.out⟩
end Go.Proofs.YtkpbchnggdnmaaaGreat
