/- Walks: the program's Amount and Value. -/
import Derived.Test.YtkbpmcpmcmnfgaaDoorCProg18
set_option linter.unusedVariables false
set_option linter.unusedSimpArgs false
set_option linter.all false
namespace Go.Proofs.YtkbpmcpmcmnfgaaDoor
open Go.RowKit Go.Shelf
attribute [local go_sem] Oper.semAt_some

theorem errAt_I (c : Claim) (i : Int) (n : Nat) : errAt c i n = if errI c i n ≠ 0 then errI c i n else if agreeL c = [] then 8 else 0 := by
  unfold errAt errI
  by_cases he : err c = 0
  · cases inB i 0 ((n : Int) - 1) <;> simp [he]
  · simp [he]
theorem errI_ok {c : Claim} {i : Int} {n : Nat} (h : errI c i n = 0) : err c = 0 ∧ 0 ≤ i ∧ i < n := by
  unfold errI at h
  by_cases he : err c = 0
  · rw [if_neg (by simp [he])] at h
    cases hb : inB i 0 ((n : Int) - 1)
    · rw [hb] at h; simp at h
    · simp [inB] at hb; exact ⟨he, by omega, by omega⟩
  · rw [if_pos he] at h; exact absurd h he
theorem amountR_bad {c : Claim} {i : Int} (h : errI c i c.causes.length ≠ 0) : amountR c i = ((0, 0), errI c i c.causes.length) := by
  rw [amountR, errAt_I, if_pos h, if_pos h]
theorem amountR_ok {c : Claim} {i : Int} (h : errI c i c.causes.length = 0) : amountR c i = spanR c (fun t => t.getD i.toNat 0) := by
  have he : errAt c i c.causes.length = if agreeL c = [] then 8 else 0 := by rw [errAt_I, if_neg (by simp [h])]
  rw [amountR, he, spanR]
  by_cases ha : agreeL c = [] <;> simp [ha]
theorem valueR_bad {c : Claim} {i : Int} (h : errI c i c.feats.length ≠ 0) : valueR c i = ((0, 0), errI c i c.feats.length) := by
  rw [valueR, errAt_I, if_pos h, if_pos h]
theorem valueR_ok {c : Claim} {i : Int} (h : errI c i c.feats.length = 0) : valueR c i = spanR c (fun t => len c t i.toNat) := by
  have he : errAt c i c.feats.length = if agreeL c = [] then 8 else 0 := by rw [errAt_I, if_neg (by simp [h])]
  rw [valueR, he, spanR]
  by_cases ha : agreeL c = [] <;> simp [ha]

theorem eg_amount1 : Enters Tryd.prog 76 := enters_of Tryd.func76 (by kernel_rfl) rfl
theorem eg_value1 : Enters Tryd.prog 77 := enters_of Tryd.func77 (by kernel_rfl) rfl

set_option maxHeartbeats 1000000 in
theorem amount1_any {g : Nat} {i : Nat} (x : List Int) (w : World) (hg : w.cell? ⟨g, 0, none⟩ = some (.int .i64 i)) (hi : i < 5) :
    Calls Tryd.prog 76 (#[tv x] ++ #[.pointer (some ⟨g, 0, none⟩)]) w fun e w' => e = .returned (.int .i64 (x.getD i 0)) ∧ Below w.heap.size w w' := by
  rw [app11]
  have htv : tv x = .agg #[.int .i64 (x.getD 0 0), .int .i64 (x.getD 1 0), .int .i64 (x.getD 2 0), .int .i64 (x.getD 3 0), .int .i64 (x.getD 4 0)] := rfl
  rw [htv]
  clear htv
  have hi5 : i = 0 ∨ i = 1 ∨ i = 2 ∨ i = 3 ∨ i = 4 := by omega
  rcases hi5 with rfl | rfl | rfl | rfl | rfl
  all_goals
    generalize x.getD 0 0 = a0
    generalize x.getD 1 0 = a1
    generalize x.getD 2 0 = a2
    generalize x.getD 3 0 = a3
    generalize x.getD 4 0 = a4
    have hg' := oldc (o := .cells #[.int .i64 a0, .int .i64 a1, .int .i64 a2, .int .i64 a3, .int .i64 a4] 96) hg
    have hB : Below w.heap.size w (w.alloc (.cells #[.int .i64 a0, .int .i64 a1, .int .i64 a2, .int .i64 a3, .int .i64 a4] 96)) := bl_alloc (Below.refl _ _) _ (Nat.le_refl _)
    go_enter Tryd.func76, Tryd.ntmps76
    go_wp2
    go_ret
    exact ⟨rfl, hB⟩

set_option maxHeartbeats 1000000 in
theorem value1_any {A B C : Option Addr} {n ca m cb q cc : Nat} {c : Claim} {gc g : Nat} {i : Nat} (x : List Int) (w : World) (h : ClaimAt (fun _ => True) w A n B m C q c) (hok : OkC c) (hx : x ∈ allT c.causes) (hi : i < c.feats.length)
    (hgc : Blk w gc 26 #[.slice A n ca, .slice B m cb, .slice C q cc]) (hg : w.cell? ⟨g, 0, none⟩ = some (.int .i64 i)) :
    Calls Tryd.prog 77 (#[tv x] ++ #[.pointer (some ⟨gc, 0, none⟩), .pointer (some ⟨g, 0, none⟩)]) w fun e w' => e = .returned (.int .i64 (len c x i)) ∧ Below w.heap.size w w' := by
  rw [app12]
  obtain ⟨hxl, hxT⟩ := allT_ok hok hx
  have hmm : x.length = m := by rw [hxl]; exact h.cs.len
  have h5 := five_take hmm (by rw [← hmm, hxl]; exact hok.nc)
  have htv : tv x = .agg #[.int .i64 (x.getD 0 0), .int .i64 (x.getD 1 0), .int .i64 (x.getD 2 0), .int .i64 (x.getD 3 0), .int .i64 (x.getD 4 0)] := rfl
  rw [htv]
  clear htv
  generalize x.getD 0 0 = a0 at h5 ⊢
  generalize x.getD 1 0 = a1 at h5 ⊢
  generalize x.getD 2 0 = a2 at h5 ⊢
  generalize x.getD 3 0 = a3 at h5 ⊢
  generalize x.getD 4 0 = a4 at h5 ⊢
  have hB : Below w.heap.size w (w.alloc (.cells #[.int .i64 a0, .int .i64 a1, .int .i64 a2, .int .i64 a3, .int .i64 a4] 96)) := bl_alloc (Below.refl _ _) _ (Nat.le_refl _)
  have hl := blength_any (ca := ca) (cb := cb) (cc := cc) (a0 := a0) (a1 := a1) (a2 := a2) (a3 := a3) (a4 := a4) i _ (h.keep (Keeps.below hB)) hok (by rw [h5]; exact hxT) hi
  rw [h5] at hl
  have HL := Lib.hid hl
  have hg' := oldc (o := .cells #[.int .i64 a0, .int .i64 a1, .int .i64 a2, .int .i64 a3, .int .i64 a4] 96) hg
  have hg0 := oldc (o := .cells #[.int .i64 a0, .int .i64 a1, .int .i64 a2, .int .i64 a3, .int .i64 a4] 96) (hgc.cell 0)
  have hg1 := oldc (o := .cells #[.int .i64 a0, .int .i64 a1, .int .i64 a2, .int .i64 a3, .int .i64 a4] 96) (hgc.cell 1)
  have hg2 := oldc (o := .cells #[.int .i64 a0, .int .i64 a1, .int .i64 a2, .int .i64 a3, .int .i64 a4] 96) (hgc.cell 2)
  clear hl h5 hgc
  go_enter Tryd.func77, Tryd.ntmps77
  go_wp2_with fail
  refine HL.out.mono ?_
  rintro e w' ⟨rfl, hb⟩
  go_wp2
  go_ret
  exact ⟨rfl, bl_call hB hb (Nat.le_refl _)⟩


set_option maxRecDepth 100000 in
set_option maxHeartbeats 4000000 in
theorem bamount_any {A B C : Option Addr} {n ca m cb q cc : Nat} {c : Claim} (i : Int) (w : World) (h : ClaimAt (fun _ => True) w A n B m C q c) (hca : n ≤ ca) (hcb : m ≤ cb) :
    Calls Tryd.prog 28 #[.agg #[.slice A n ca, .slice B m cb, .slice C q cc], .int .i64 i] w fun e w' => e = .returned (.tuple #[.agg #[.int .i64 (amountR c i).1.1, .int .i64 (amountR c i).1.2], .int .i64 (amountR c i).2]) ∧ Below w.heap.size w w' := by
  have hlm := h.cs.le
  have Hm := Lib.hid h.cs.len
  have hmi : (m : Int) ≤ 9223372036854775807 := by omega
  by_cases he : errI c i m = 0
  · have HR : Hid (amountR c i = spanR c (fun t => t.getD i.toNat 0)) := by rw [Hid]; exact amountR_ok (by rw [Hm.out]; exact he)
    obtain ⟨he0, hi0, him⟩ := errI_ok he
    have hok := okC_of he0
    have hm5 : m ≤ 5 := by rw [← Hm.out]; exact hok.nc
    obtain ⟨k, rfl⟩ : ∃ k : Nat, i = k := ⟨i.toNat, by omega⟩
    have hk5 : k < 5 := by omega
    have Herr := Lib.hid he
    clear he he0 hi0 him
    go_enter Tryd.func28, Tryd.ntmps28
    go_wp2_with fail
    refine (check61_any (k : Int) m _ (((h.keep (Keeps.alloc _ _)).keep (Keeps.alloc _ _)).keep (Keeps.alloc _ _)) hca hcb (by omega) hmi).mono ?_
    rintro e w1 ⟨rfl, hb1⟩
    rw [Herr.out]
    have hcb1 : Blk w1 w.heap.size 26 #[.slice A n ca, .slice B m cb, .slice C q cc] := (((Blk.new _ _ _ rfl).alloc _).alloc _).bl hb1
    have hib1 : Blk w1 (w.heap.size + 1) 3 #[.int .i64 k] := ((Blk.new _ _ _ (by simp)).alloc _).bl hb1
    have hsb1 : Blk w1 (w.heap.size + 1 + 1) 44 #[.int .i64 0, .int .i64 0] := (Blk.new _ _ _ (by simp)).bl hb1
    have hBw1 : Below w.heap.size w w1 := bl_call (bl_alloc (bl_alloc (bl_alloc (Below.refl _ _) _ (Nat.le_refl _)) _ (Nat.le_refl _)) _ (Nat.le_refl _)) hb1 (Nat.le_refl _)
    have hc1 := h.keep (Keeps.below hBw1)
    have h0 := hcb1.cell 0
    have h1 := hcb1.cell 1
    have h2 := hcb1.cell 2
    clear hb1
    have HSP := Lib.hid (bspan_any (ca := ca) (cb := cb) (cc := cc) (ff := 76) (lb := #[.pointer (some ⟨w.heap.size + 1, 0, none⟩)]) (f := fun t => t.getD k 0) w1 hok hc1 eg_amount1 (fun W' t hb _ => amount1_any t W' ((hib1.bl hb).cell 0) hk5))
    go_wp2_with fail
    refine HSP.out.mono ?_
    rintro e w2 ⟨rfl, hb2⟩
    have hS := hsb1.bl hb2
    have hs0 := hS.c0
    have hs1 := hS.c1
    have hf0 := hS.frozen 0
    have hf1 := hS.frozen 1
    have hsl := hS.lt
    go_wp2
    exact bodyPost_ret (ret_span rfl rfl rfl (hS.set2 _ _).c0 (hS.set2 _ _).c1) rfl ⟨by rw [HR.out]; rfl, bl_set (bl_set (bl_call hBw1 hb2 (Nat.le_refl _)) (by dsimp only; omega) _) (by dsimp only; omega) _⟩
  · have HR : Hid (amountR c i = ((0, 0), errI c i m)) := by rw [Hid, ← Hm.out]; exact amountR_bad (by rw [Hm.out]; exact he)
    have hbe : (errI c i m != 0) = true := by simpa using he
    have HC := Lib.hid (fun W hW1 hW2 => check61_any (A := A) (B := B) (C := C) (n := n) (ca := ca) (m := m) (cb := cb) (q := q) (cc := cc) (c := c) i m W hW1 hca hcb hW2 hmi)
    clear he
    generalize errI c i m = ec at HR HC hbe
    go_enter Tryd.func28, Tryd.ntmps28
    go_wp2_with fail
    refine (HC.out _ (((h.keep (Keeps.alloc _ _)).keep (Keeps.alloc _ _)).keep (Keeps.alloc _ _)) (by omega)).mono ?_
    rintro e w1 ⟨rfl, hb1⟩
    have hS : Blk w1 (w.heap.size + 1 + 1) 44 #[.int .i64 0, .int .i64 0] := (Blk.new _ _ _ (by simp)).bl hb1
    have hBw1 : Below w.heap.size w w1 := bl_call (bl_alloc (bl_alloc (bl_alloc (Below.refl _ _) _ (Nat.le_refl _)) _ (Nat.le_refl _)) _ (Nat.le_refl _)) hb1 (Nat.le_refl _)
    have hs0 := hS.c0
    have hs1 := hS.c1
    have hf0 := hS.frozen 0
    have hf1 := hS.frozen 1
    have hsl := hS.lt
    clear hb1
    go_wp2
    exact bodyPost_ret (ret_span rfl rfl rfl (hS.set2 _ _).c0 (hS.set2 _ _).c1) rfl ⟨by rw [HR.out], bl_set (bl_set hBw1 (by dsimp only; omega) _) (by dsimp only; omega) _⟩

set_option maxRecDepth 100000 in
set_option maxHeartbeats 4000000 in
theorem bvalue_any {A B C : Option Addr} {n ca m cb q cc : Nat} {c : Claim} (i : Int) (w : World) (h : ClaimAt (fun _ => True) w A n B m C q c) (hca : n ≤ ca) (hcb : m ≤ cb) :
    Calls Tryd.prog 30 #[.agg #[.slice A n ca, .slice B m cb, .slice C q cc], .int .i64 i] w fun e w' => e = .returned (.tuple #[.agg #[.int .i64 (valueR c i).1.1, .int .i64 (valueR c i).1.2], .int .i64 (valueR c i).2]) ∧ Below w.heap.size w w' := by
  have hlm := h.fs.le
  have Hm := Lib.hid h.fs.len
  have hmi : (n : Int) ≤ 9223372036854775807 := by omega
  by_cases he : errI c i n = 0
  · have HR : Hid (valueR c i = spanR c (fun t => len c t i.toNat)) := by rw [Hid]; exact valueR_ok (by rw [Hm.out]; exact he)
    obtain ⟨he0, hi0, him⟩ := errI_ok he
    have hok := okC_of he0
    obtain ⟨k, rfl⟩ : ∃ k : Nat, i = k := ⟨i.toNat, by omega⟩
    have hk5 : k < c.feats.length := by rw [Hm.out]; omega
    have Herr := Lib.hid he
    clear he he0 hi0 him
    go_enter Tryd.func30, Tryd.ntmps30
    go_wp2_with fail
    refine (check61_any (k : Int) n _ (((h.keep (Keeps.alloc _ _)).keep (Keeps.alloc _ _)).keep (Keeps.alloc _ _)) hca hcb (by omega) hmi).mono ?_
    rintro e w1 ⟨rfl, hb1⟩
    rw [Herr.out]
    have hcb1 : Blk w1 w.heap.size 26 #[.slice A n ca, .slice B m cb, .slice C q cc] := (((Blk.new _ _ _ rfl).alloc _).alloc _).bl hb1
    have hib1 : Blk w1 (w.heap.size + 1) 3 #[.int .i64 k] := ((Blk.new _ _ _ (by simp)).alloc _).bl hb1
    have hsb1 : Blk w1 (w.heap.size + 1 + 1) 44 #[.int .i64 0, .int .i64 0] := (Blk.new _ _ _ (by simp)).bl hb1
    have hBw1 : Below w.heap.size w w1 := bl_call (bl_alloc (bl_alloc (bl_alloc (Below.refl _ _) _ (Nat.le_refl _)) _ (Nat.le_refl _)) _ (Nat.le_refl _)) hb1 (Nat.le_refl _)
    have hc1 := h.keep (Keeps.below hBw1)
    have h0 := hcb1.cell 0
    have h1 := hcb1.cell 1
    have h2 := hcb1.cell 2
    clear hb1
    have HSP := Lib.hid (bspan_any (ca := ca) (cb := cb) (cc := cc) (ff := 77) (lb := #[.pointer (some ⟨w.heap.size, 0, none⟩), .pointer (some ⟨w.heap.size + 1, 0, none⟩)]) (f := fun t => len c t k) w1 hok hc1 eg_value1 (fun W' t hb ht => value1_any t W' (hc1.keep (Keeps.below hb)) hok (List.mem_filter.1 ht).1 hk5 (hcb1.bl hb) ((hib1.bl hb).cell 0)))
    go_wp2_with fail
    refine HSP.out.mono ?_
    rintro e w2 ⟨rfl, hb2⟩
    have hS := hsb1.bl hb2
    have hs0 := hS.c0
    have hs1 := hS.c1
    have hf0 := hS.frozen 0
    have hf1 := hS.frozen 1
    have hsl := hS.lt
    go_wp2
    exact bodyPost_ret (ret_span rfl rfl rfl (hS.set2 _ _).c0 (hS.set2 _ _).c1) rfl ⟨by rw [HR.out]; rfl, bl_set (bl_set (bl_call hBw1 hb2 (Nat.le_refl _)) (by dsimp only; omega) _) (by dsimp only; omega) _⟩
  · have HR : Hid (valueR c i = ((0, 0), errI c i n)) := by rw [Hid, ← Hm.out]; exact valueR_bad (by rw [Hm.out]; exact he)
    have hbe : (errI c i n != 0) = true := by simpa using he
    have HC := Lib.hid (fun W hW1 hW2 => check61_any (A := A) (B := B) (C := C) (n := n) (ca := ca) (m := m) (cb := cb) (q := q) (cc := cc) (c := c) i n W hW1 hca hcb hW2 hmi)
    clear he
    generalize errI c i n = ec at HR HC hbe
    go_enter Tryd.func30, Tryd.ntmps30
    go_wp2_with fail
    refine (HC.out _ (((h.keep (Keeps.alloc _ _)).keep (Keeps.alloc _ _)).keep (Keeps.alloc _ _)) (by omega)).mono ?_
    rintro e w1 ⟨rfl, hb1⟩
    have hS : Blk w1 (w.heap.size + 1 + 1) 44 #[.int .i64 0, .int .i64 0] := (Blk.new _ _ _ (by simp)).bl hb1
    have hBw1 : Below w.heap.size w w1 := bl_call (bl_alloc (bl_alloc (bl_alloc (Below.refl _ _) _ (Nat.le_refl _)) _ (Nat.le_refl _)) _ (Nat.le_refl _)) hb1 (Nat.le_refl _)
    have hs0 := hS.c0
    have hs1 := hS.c1
    have hf0 := hS.frozen 0
    have hf1 := hS.frozen 1
    have hsl := hS.lt
    clear hb1
    go_wp2
    exact bodyPost_ret (ret_span rfl rfl rfl (hS.set2 _ _).c0 (hS.set2 _ _).c1) rfl ⟨by rw [HR.out], bl_set (bl_set hBw1 (by dsimp only; omega) _) (by dsimp only; omega) _⟩

end Go.Proofs.YtkbpmcpmcmnfgaaDoor
