/- Plain: the order of lists, and the tiles that fit a row, in order. Nothing of a program stands here. -/
import Derived.Shelf.SlSortCmp.NoneTotal
import Derived.Test.YtnaadjhiahjlfaaCTFits
set_option linter.unusedVariables false
set_option linter.unusedSimpArgs false
set_option linter.all false
namespace Go.Proofs.Ytnaadjhiahjlfaa

def cmpI (x y : Int) : Int := if x < y then -1 else if y < x then 1 else 0
def lexC : List Int → List Int → Int
  | [], [] => 0
  | [], _ :: _ => -1
  | _ :: _, [] => 1
  | x :: xs, y :: ys => if cmpI x y = 0 then lexC xs ys else cmpI x y
theorem cmpI_zero {x y : Int} : cmpI x y = 0 ↔ x = y := by unfold cmpI; split <;> (try split) <;> omega
theorem cmpI_neg {x y : Int} : cmpI x y < 0 ↔ x < y := by unfold cmpI; split <;> (try split) <;> omega
theorem lexC_refl : ∀ xs : List Int, lexC xs xs = 0 := by
  intro xs
  induction xs with
  | nil => rfl
  | cons x xs ih => rw [lexC, if_pos (cmpI_zero.2 rfl), ih]
theorem lexC_neg {x y : Int} {xs ys : List Int} : lexC (x :: xs) (y :: ys) < 0 ↔ x < y ∨ (x = y ∧ lexC xs ys < 0) := by
  rw [lexC]
  by_cases h : x = y
  · rw [if_pos (cmpI_zero.2 h)]; subst h; simp
  · rw [if_neg (fun e => h (cmpI_zero.1 e)), cmpI_neg]; simp [h]
theorem lexC_trans : ∀ xs ys zs : List Int, lexC xs ys < 0 → lexC ys zs < 0 → lexC xs zs < 0 := by
  intro xs
  induction xs with
  | nil =>
    intro ys zs h1 h2
    cases zs with
    | nil => cases ys with
      | nil => exact h1
      | cons y ys => simp [lexC] at h2
    | cons z zs => simp [lexC]
  | cons x xs ih =>
    intro ys zs h1 h2
    cases ys with
    | nil => simp [lexC] at h1
    | cons y ys =>
      cases zs with
      | nil => simp [lexC] at h2
      | cons z zs =>
        rw [lexC_neg] at h1 h2 ⊢
        rcases h1 with h1 | ⟨h1, h1'⟩ <;> rcases h2 with h2 | ⟨h2, h2'⟩
        · exact .inl (by omega)
        · exact .inl (by omega)
        · exact .inl (by omega)
        · exact .inr ⟨by omega, ih _ _ h1' h2'⟩
theorem lexC_tri : ∀ xs ys : List Int, ¬ lexC xs ys < 0 → ¬ lexC ys xs < 0 → xs = ys := by
  intro xs
  induction xs with
  | nil =>
    intro ys h1 _
    cases ys with
    | nil => rfl
    | cons y ys => simp [lexC] at h1
  | cons x xs ih =>
    intro ys h1 h2
    cases ys with
    | nil => simp [lexC] at h2
    | cons y ys =>
      rw [lexC_neg] at h1 h2
      have e : x = y := by omega
      subst e
      rw [ih ys (fun h => h1 (.inr ⟨rfl, h⟩)) (fun h => h2 (.inr ⟨rfl, h⟩))]

/-- the set of some numbers -/
def encL (x : List Int) : Nat := x.foldl (fun s i => s ||| (1 <<< i.toNat)) 0
theorem enc_bit : ∀ s : Nat, s < 256 → encL (bitL s) = s := by decide +kernel
theorem lex_pair : ∀ n : Nat, n < 9 → ∀ k : Nat, k < 9 → (lexL k (numbersL n)).Pairwise fun a b => lexC a b < 0 := by decide +kernel
theorem lex_enc : ∀ n : Nat, n < 9 → ∀ k : Nat, k < 9 → ∀ x ∈ lexL k (numbersL n), encL x < 2 ^ n ∧ bitL (encL x) = x ∧ x.length = k := by decide +kernel
theorem lex_mem : ∀ n : Nat, n < 9 → ∀ s : Nat, s < 2 ^ n → bitL s ∈ lexL (bitL s).length (numbersL n) := by decide +kernel

/-- the tiles that fit a row, in order, as sets, with their gap -/
def fitS (h : Hall) (l : List Seen) (row : Nat) : List (Nat × Int) := (fitL h l row).map fun x => (encL x, (gap8 h l row x).2)
theorem fit_lt {h : Hall} {l : List Seen} {row : Nat} {x : List Int} (hn : h.tiles.length < 9) (hp : rowP h row < 9) (hx : x ∈ fitL h l row) : encL x < 2 ^ h.tiles.length ∧ bitL (encL x) = x ∧ x.length = rowP h row ∧ wrong8 h.most (gap8 h l row x) = 0 := by
  unfold fitL at hx
  obtain ⟨h1, h2⟩ := List.mem_filter.1 hx
  obtain ⟨a, b, c⟩ := lex_enc _ hn _ hp x h1
  exact ⟨a, b, c, by simpa using h2⟩
theorem fitS_mem {h : Hall} {l : List Seen} {row : Nat} (hn : h.tiles.length < 9) (hp : rowP h row < 9) (p : Nat × Int) : p ∈ fitS h l row ↔ p ∈ fitK h l row (2 ^ h.tiles.length) := by
  unfold fitS fitK
  rw [List.mem_map, List.mem_map]
  have h256 : ∀ s, s < 2 ^ h.tiles.length → s < 256 := fun s hs => Nat.lt_of_lt_of_le hs (Nat.pow_le_pow_right (by decide) (by omega : h.tiles.length ≤ 8) : 2 ^ h.tiles.length ≤ 2 ^ 8)
  constructor
  · rintro ⟨x, hx, rfl⟩
    obtain ⟨a, b, c, d⟩ := fit_lt hn hp hx
    refine ⟨encL x, List.mem_filter.2 ⟨List.mem_range.2 a, ?_⟩, by rw [b]⟩
    unfold fitsB
    rw [b, c, d]; simp
  · rintro ⟨s, hs, rfl⟩
    obtain ⟨h1, h2⟩ := List.mem_filter.1 hs
    have hlt := List.mem_range.1 h1
    unfold fitsB at h2
    simp at h2
    refine ⟨bitL s, ?_, by rw [enc_bit s (h256 s hlt)]⟩
    unfold fitL
    refine List.mem_filter.2 ⟨?_, by simpa using h2.2⟩
    rw [← h2.1]
    exact lex_mem _ hn s hlt
theorem fitS_pair {h : Hall} {l : List Seen} {row : Nat} (hn : h.tiles.length < 9) (hp : rowP h row < 9) : (fitS h l row).Pairwise fun a b => lexC (bitL a.1) (bitL b.1) < 0 := by
  unfold fitS
  rw [List.pairwise_map]
  have hp1 : (fitL h l row).Pairwise fun a b => lexC a b < 0 := (lex_pair _ hn _ hp).filter _
  refine List.Pairwise.imp_of_mem (fun {a b} ha hb hr => ?_) hp1
  rw [(fit_lt hn hp ha).2.1, (fit_lt hn hp hb).2.1]; exact hr
theorem nodup_of_lex {X : List (Nat × Int)} (h : X.Pairwise fun a b => lexC (bitL a.1) (bitL b.1) < 0) : X.Nodup := h.imp (fun {a b} hr e => by rw [e, lexC_refl] at hr; omega)
/-- a sorted order of the sets that fit is the order of the document -/
theorem sorted_fit {h : Hall} {l : List Seen} {row : Nat} (hn : h.tiles.length < 9) (hp : rowP h row < 9) {Y : List (Nat × Int)} (hperm : Y.Perm (fitK h l row (2 ^ h.tiles.length)))
    (hs : Y.Pairwise fun a b => ¬ lexC (bitL b.1) (bitL a.1) < 0) : Y = fitS h l row := by
  have hnK : (fitK h l row (2 ^ h.tiles.length)).Nodup := by
    unfold fitK List.Nodup
    rw [List.pairwise_map]
    exact (List.nodup_range.filter _).imp (fun {a b} hne e => hne (congrArg Prod.fst e))
  have hnY : Y.Nodup := hperm.nodup_iff.2 hnK
  have h256 : ∀ s, s < 2 ^ h.tiles.length → s < 256 := fun s hs => Nat.lt_of_lt_of_le hs (Nat.pow_le_pow_right (by decide) (by omega : h.tiles.length ≤ 8) : 2 ^ h.tiles.length ≤ 2 ^ 8)
  have hmem : ∀ p ∈ Y, p.1 < 256 ∧ p = (p.1, (gap8 h l row (bitL p.1)).2) := fun p hp => by
    have hp2 := hperm.mem_iff.1 hp
    unfold fitK at hp2
    obtain ⟨s, hs, rfl⟩ := List.mem_map.1 hp2
    exact ⟨h256 s (List.mem_range.1 (List.mem_filter.1 hs).1), rfl⟩
  have hYp : Y.Pairwise fun a b => lexC (bitL a.1) (bitL b.1) < 0 := by
    refine List.Pairwise.imp_of_mem (fun {a b} ha hb hr => ?_) (hs.and hnY)
    obtain ⟨hr1, hr2⟩ := hr
    refine Classical.byContradiction fun hc => hr2 ?_
    have e := lexC_tri _ _ hc hr1
    obtain ⟨a1, a2⟩ := hmem a ha
    obtain ⟨b1, b2⟩ := hmem b hb
    have e2 : a.1 = b.1 := by rw [← enc_bit _ a1, ← enc_bit _ b1, e]
    rw [a2, b2, e2]
  have hP : Y.Perm (fitS h l row) := by
    rw [List.perm_ext_iff_of_nodup hnY (nodup_of_lex (fitS_pair hn hp))]
    intro p
    rw [fitS_mem hn hp p]; exact hperm.mem_iff
  exact List.Perm.eq_of_pairwise (fun a b _ _ h1 h2 => by have := lexC_trans _ _ _ h1 h2; rw [lexC_refl] at this; omega) hYp (fitS_pair hn hp) hP

end Go.Proofs.Ytnaadjhiahjlfaa

namespace Go.Proofs
open Go.Shelf Go.RowKit
def Try.sortSome_ren : Go.Shelf.Ren := ⟨fun | 6 => 108 | 15 => 128 | 14 => 135 | 28 => 145 | 29 => 146 | 20 => 149 | 21 => 150 | 22 => 151 | 23 => 152 | 24 => 153 | 25 => 154 | 26 => 155 | 27 => 156 | 46 => 168 | 47 => 169 | 48 => 170 | 49 => 171 | 50 => 172 | 57 => 176 | n => n, fun | 22 => 182 | 24 => 184 | 25 => 187 | 3 => 3 | 39 => 152 | 0 => 0 | 53 => 213 | 55 => 215 | 4 => 4 | 46 => 230 | 45 => 229 | 50 => 210 | 5 => 5 | 9 => 9 | 66 => 242 | 70 => 246 | 76 => 250 | 77 => 251 | n => n, fun n => n⟩
theorem Try.sortSome : SlLaysF0.n6 Try.prog Try.sortSome_ren where
  mixed := by kernel_rfl
  f6 := ⟨Try.f108.name, by kernel_rfl, Try.func108.trans (congrArg some (by kernel_rfl))⟩
  f14 := ⟨Try.f135.name, by kernel_rfl, Try.func135.trans (congrArg some (by kernel_rfl))⟩
  f15 := Try.func128.trans (congrArg some (by kernel_rfl))
  f20 := ⟨Try.f149.name, by kernel_rfl, Try.func149.trans (congrArg some (by kernel_rfl))⟩
  f21 := ⟨Try.f150.name, by kernel_rfl, Try.func150.trans (congrArg some (by kernel_rfl))⟩
  f22 := ⟨Try.f151.name, by kernel_rfl, Try.func151.trans (congrArg some (by kernel_rfl))⟩
  f23 := ⟨Try.f152.name, by kernel_rfl, Try.func152.trans (congrArg some (by kernel_rfl))⟩
  f24 := ⟨Try.f153.name, by kernel_rfl, Try.func153.trans (congrArg some (by kernel_rfl))⟩
  f25 := ⟨Try.f154.name, by kernel_rfl, Try.func154.trans (congrArg some (by kernel_rfl))⟩
  f26 := ⟨Try.f155.name, by kernel_rfl, Try.func155.trans (congrArg some (by kernel_rfl))⟩
  f27 := ⟨Try.f156.name, by kernel_rfl, Try.func156.trans (congrArg some (by kernel_rfl))⟩
  f28 := Try.func145.trans (congrArg some (by kernel_rfl))
  f29 := Try.func146.trans (congrArg some (by kernel_rfl))
  f46 := ⟨Try.f168.name, by kernel_rfl, Try.func168.trans (congrArg some (by kernel_rfl))⟩
  f47 := Try.func169.trans (congrArg some (by kernel_rfl))
  f48 := Try.func170.trans (congrArg some (by kernel_rfl))
  f49 := ⟨Try.f171.name, by kernel_rfl, Try.func171.trans (congrArg some (by kernel_rfl))⟩
  f50 := ⟨Try.f172.name, by kernel_rfl, Try.func172.trans (congrArg some (by kernel_rfl))⟩
  f57 := ⟨Try.f176.name, by kernel_rfl, Try.func176.trans (congrArg some (by kernel_rfl))⟩
  t0 := Try.underlying0
  a0 := Try.isAgg0
  z0 := Try.sizeOf0
  v0 := Try.zeroValue0
  t3 := Try.underlying3
  a3 := Try.isAgg3
  z3 := Try.sizeOf3
  v3 := Try.zeroValue3
  t4 := Try.underlying4
  a4 := Try.isAgg4
  z4 := Try.sizeOf4
  v4 := Try.zeroValue4
  t5 := Try.underlying5
  a5 := Try.isAgg5
  z5 := Try.sizeOf5
  v5 := Try.zeroValue5
  t9 := Try.underlying9
  a9 := Try.isAgg9
  z9 := Try.sizeOf9
  v9 := Try.zeroValue9
  t22 := Try.underlying182
  a22 := Try.isAgg182
  z22 := Try.sizeOf182
  v22 := Try.zeroValue182
  t25 := Try.underlying187
  a25 := Try.isAgg187
  z25 := Try.sizeOf187
  v25 := Try.zeroValue187
  t39 := Try.underlying152
  a39 := Try.isAgg152
  z39 := Try.sizeOf152
  v39 := Try.zeroValue152
  t45 := Try.underlying229
  a45 := Try.isAgg229
  z45 := Try.sizeOf229
  v45 := Try.zeroValue229
  t46 := Try.underlying230
  a46 := Try.isAgg230
  z46 := Try.sizeOf230
  v46 := Try.zeroValue230
  t50 := Try.underlying210
  a50 := Try.isAgg210
  z50 := Try.sizeOf210
  v50 := Try.zeroValue210
  t53 := Try.underlying213
  a53 := Try.isAgg213
  z53 := Try.sizeOf213
  v53 := Try.zeroValue213
  t55 := Try.underlying215
  a55 := Try.isAgg215
  z55 := Try.sizeOf215
  v55 := Try.zeroValue215
  t66 := Try.underlying242
  a66 := Try.isAgg242
  z66 := Try.sizeOf242
  v66 := Try.zeroValue242
  t70 := Try.underlying246
  a70 := Try.isAgg246
  z70 := Try.sizeOf246
  v70 := Try.zeroValue246
  t76 := Try.underlying250
  a76 := Try.isAgg250
  z76 := Try.sizeOf250
  v76 := Try.zeroValue250
  t77 := Try.underlying251
  a77 := Try.isAgg251
  z77 := Try.sizeOf251
  v77 := Try.zeroValue251

end Go.Proofs
namespace Go.Proofs.Ytnaadjhiahjlfaa
open Go.RowKit Go.Shelf Go.Sort

theorem nan_int (x : Int) (w : World) : Calls Try.prog 157 #[.int .i64 x] w fun e w' => e = .returned (.bool false) ∧ w = w' := by
  go_enter Try.func157, Try.ntmps157
  go_wp2
  go_ret
  exact ⟨rfl, rfl⟩

set_option maxHeartbeats 400000 in
theorem cmp_int (x y : Int) (w : World) : Calls Try.prog 136 #[.int .i64 x, .int .i64 y] w fun e w' => e = .returned (.int .i64 (cmpI x y)) ∧ w = w' := by
  by_cases h : x < y
  · have HR : Hid (cmpI x y = -1) := by rw [Hid, cmpI, if_pos h]
    go_enter Try.func136, Try.ntmps136
    go_wp2_with (go_at_call 157; refine (nan_int _ _).mono ?_; rintro e w' ⟨rfl, rfl⟩)
    go_ret
    exact ⟨by rw [HR.out]; rfl, rfl⟩
  · by_cases h2 : y < x
    · have HR : Hid (cmpI x y = 1) := by rw [Hid, cmpI, if_neg h, if_pos h2]
      go_enter Try.func136, Try.ntmps136
      go_wp2_with (go_at_call 157; refine (nan_int _ _).mono ?_; rintro e w' ⟨rfl, rfl⟩)
      go_ret
      exact ⟨by rw [HR.out]; rfl, rfl⟩
    · have HR : Hid (cmpI x y = 0) := by rw [Hid, cmpI, if_neg h, if_neg h2]
      go_enter Try.func136, Try.ntmps136
      go_wp2_with (go_at_call 157; refine (nan_int _ _).mono ?_; rintro e w' ⟨rfl, rfl⟩)
      go_ret
      exact ⟨by rw [HR.out]; rfl, rfl⟩

set_option maxHeartbeats 1000000 in
theorem compare_any {S T : Foot} {A B : Option Addr} {n c m d : Nat} {xs ys : List Int} (w : World) (h : Ints S w A n xs) (g : Ints T w B m ys) :
    Calls Try.prog 110 #[.slice A n c, .slice B m d] w fun e w' => e = .returned (.int .i64 (lexC xs ys)) ∧ w = w' := by
  have hle := h.le
  have gle := g.le
  have Hn := Lib.hid h.len
  have Hm := Lib.hid g.len
  go_enter Try.func110, Try.ntmps110
  go_wp2
  go_loop [11] (fun i => ∃ k : Nat, k ≤ n ∧ k ≤ m ∧ i = .int .i64 k ∧ Hid (lexC xs ys = lexC (xs.drop k) (ys.drop k))) (fun i => n - (intOf i).toNat)
  case atStart => exact ⟨0, Nat.zero_le _, Nat.zero_le _, rfl, rfl⟩
  case round =>
    obtain ⟨k, hk, hkm, rfl, Hl⟩ := hrel
    by_cases hlt : k < n
    · obtain ⟨b, off, x, rfl, hcell, Hx⟩ := h.get hlt
      have hdx := drop_cons Hx.out
      have hki : (k : Int) < n := by omega
      by_cases hmt : k < m
      · have hmi : (k : Int) < m := by omega
        obtain ⟨b', off', y, rfl, hcell', Hy⟩ := g.get hmt
        have hdy := drop_cons Hy.out
        have Hstep : Hid (lexC xs ys = if cmpI x y = 0 then lexC (xs.drop (k + 1)) (ys.drop (k + 1)) else cmpI x y) := by rw [Hid, Hl.out, hdx, hdy, lexC]
        clear hdx hdy
        generalize hz : cmpI x y = z at *
        have Hz := Lib.hid hz
        clear hz
        by_cases h0 : z = 0
        · subst h0
          go_wp2_with (go_at_call 136; refine (cmp_int _ _ _).mono ?_; rintro e w' ⟨rfl, rfl⟩; rw [Hz.out])
          go_round
          case rel => exact ⟨k + 1, by omega, by omega, by go_num, by rw [Hid, Hstep.out]; simp⟩
          case measure => simp [intOf]; omega
        · have h0b : (z != 0) = true := by simpa using h0
          have HR : Hid (lexC xs ys = z) := by rw [Hid, Hstep.out, if_neg h0]
          clear h0
          go_wp2_with (go_at_call 136; refine (cmp_int _ _ _).mono ?_; rintro e w' ⟨rfl, rfl⟩; rw [Hz.out])
          go_ret
          exact ⟨by rw [HR.out]; rfl, rfl⟩
      · obtain rfl : k = m := by omega
        have HR : Hid (lexC xs ys = 1) := by have hdy : ys.drop k = [] := List.drop_of_length_le (by rw [Hm.out]; exact Nat.le_refl _); rw [Hid, Hl.out, hdx, hdy, lexC]
        clear hdx
        go_wp2
        go_ret
        exact ⟨by rw [HR.out]; rfl, rfl⟩
    · obtain rfl : k = n := by omega
      have hd0 : xs.drop k = [] := List.drop_of_length_le (by rw [Hn.out]; exact Nat.le_refl _)
      by_cases hmt : k < m
      · have HR : Hid (lexC xs ys = -1) := by
          obtain ⟨y, hy⟩ : ∃ y, ys[k]? = some y := ⟨_, List.getElem?_eq_getElem (by rw [Hm.out]; exact hmt)⟩
          rw [Hid, Hl.out, hd0, drop_cons hy, lexC]
        clear hd0
        go_wp2
        go_ret
        exact ⟨by rw [HR.out]; rfl, rfl⟩
      · have HR : Hid (lexC xs ys = 0) := by have hdy : ys.drop k = [] := List.drop_of_length_le (by rw [Hm.out]; omega); rw [Hid, Hl.out, hd0, hdy, lexC]
        clear hd0
        go_wp2
        go_ret
        exact ⟨by rw [HR.out]; rfl, rfl⟩


theorem eg_cmp : Enters Try.prog 109 := enters_of Try.func109 (by kernel_rfl) rfl
theorem cmp_some {S T : Foot} {A B : Option Addr} {n c m d s t : Nat} {g f : Int} {xs ys : List Int} (w : World) (h : Ints S w A n xs) (k : Ints T w B m ys) :
    Calls Try.prog 109 #[.agg #[.slice A n c, .int .i64 s, .int .i64 g], .agg #[.slice B m d, .int .i64 t, .int .i64 f]] w fun e w' => e = .returned (.int .i64 (lexC xs ys)) ∧ w' = (w.alloc (.cells #[.slice A n c, .int .i64 s, .int .i64 g] 184)).alloc (.cells #[.slice B m d, .int .i64 t, .int .i64 f] 184) := by
  have h2 : Ints S ((w.alloc (.cells #[.slice A n c, .int .i64 s, .int .i64 g] 184)).alloc (.cells #[.slice B m d, .int .i64 t, .int .i64 f] 184)) A n xs := (h.keep IntR.good (Keeps.alloc _ _)).keep IntR.good (Keeps.alloc _ _)
  have k2 : Ints T ((w.alloc (.cells #[.slice A n c, .int .i64 s, .int .i64 g] 184)).alloc (.cells #[.slice B m d, .int .i64 t, .int .i64 f] 184)) B m ys := (k.keep IntR.good (Keeps.alloc _ _)).keep IntR.good (Keeps.alloc _ _)
  go_enter Try.func109, Try.ntmps109
  go_wp2_with fail
  refine (compare_any _ h2 k2).mono ?_
  rintro e w' ⟨rfl, rfl⟩
  go_wp2_with fail
  go_ret
  exact ⟨rfl, rfl⟩

end Go.Proofs.Ytnaadjhiahjlfaa

namespace Go.Proofs.Ytnaadjhiahjlfaa
open Go.RowKit Go.Shelf Go.Sort

/-- a row's slice, as it reads -/
def RowRd (S : Foot) (W : World) (base : Nat) (v : Value) (xs : List (Nat × Int)) : Prop := ∃ A cap, v = .slice A xs.length cap ∧ ∀ k x, xs[k]? = some x → ∃ g vs, A = some ⟨g, 0, none⟩ ∧ base ≤ g ∧ g < W.heap.size ∧ ¬ S g ∧ SomeR S W x vs ∧ ∀ (j : Nat) (u : Value), vs[j]? = some u → W.cell? ⟨g, k * 3 + j, none⟩ = some u ∧ W.frozen? ⟨g, k * 3 + j, none⟩ = false
theorem RowRd.keep {S : Foot} {W W' : World} {base : Nat} {v : Value} {xs : List (Nat × Int)} (h : RowRd S W base v xs) (hk : Keeps (fun k => S k ∨ v.ownBlock = some k) W W') : RowRd S W' base v xs := by
  obtain ⟨A, cap, rfl, hx⟩ := h
  refine ⟨A, cap, rfl, fun k x hk' => ?_⟩
  obtain ⟨g, vs, rfl, h1, h2, h3, h4, h5⟩ := hx k x hk'
  refine ⟨g, vs, rfl, h1, Nat.lt_of_lt_of_le h2 hk.size, h3, SomeR.good.keep h4 (hk.sub fun _ h => .inl h), fun j u hu => ?_⟩
  obtain ⟨a, b⟩ := h5 j u hu
  exact ⟨(World.cell?_of_block (hk.block g (.inr rfl) h2)).trans a, (World.frozen?_of_block (hk.block g (.inr rfl) h2)).trans b⟩
theorem OwnL.rd {S : Foot} {W : World} {base : Nat} {e : TypeId} {v : Value} {xs : List (Nat × Int)} (h : OwnL SomeR 3 S W base e v xs) : RowRd S W base v xs := by
  obtain ⟨A, cap, hv⟩ := h.form
  subst hv
  refine ⟨A, cap, rfl, fun k x hk => ?_⟩
  obtain ⟨h0, cells, hrow, hc⟩ := h
  obtain ⟨vs, hR, hcc⟩ := hc k x hk
  rcases hrow.2 with ⟨e, e0⟩ | ⟨gb, cap', cur, e, hb, hgg, _, _, _, htake⟩
  · have := of_getq' hk; omega
  · injection e with e1 e2 e3
    subst e1
    refine ⟨gb, vs, rfl, hb, (Array.getElem?_eq_some_iff.1 hgg).1, h0 gb rfl, hR, fun j u hu => ?_⟩
    have h2 := hcc j u hu
    rw [← htake, List.getElem?_take] at h2
    refine ⟨?_, ?_⟩
    · rw [cell_of_row W gb (k * 3 + j) cur _ (0, 0) hgg]
      split at h2
      · simpa using h2
      · cases h2
    · exact Blk.frozen (show Blk W gb _ cur from hgg) _

structure FitRd (W : World) (base gF : Nat) (T0 : TypeId) (m : Nat) (f : Nat → List (Nat × Int)) : Prop where
  lt : gF < base
  bs : base ≤ W.heap.size
  ex : ∃ (cs : Array Value) (S : Foot), Blk W gF T0 cs ∧ cs.size = m ∧ (∀ k, S k → base ≤ k ∧ k < W.heap.size) ∧ (∀ r, r < m → ∃ v, cs[r]? = some v ∧ RowRd S W base v (f r)) ∧
    (∀ (r r' : Nat) (v v' : Value) (k : Nat), r ≠ r' → cs[r]? = some v → cs[r']? = some v' → v.ownBlock = some k → v'.ownBlock ≠ some k)
theorem FitSt.rd {W : World} {base gF : Nat} {T0 e : TypeId} {m : Nat} {f : Nat → List (Nat × Int)} (h : FitSt W base gF T0 e m f) : FitRd W base gF T0 m f := by
  obtain ⟨h1, h2, cs, S, hB, hs, hS, hr, hd⟩ := h
  refine ⟨h1, h2, cs, S, hB, hs, hS, fun r hr' => ?_, hd⟩
  obtain ⟨v, hv, hO⟩ := hr r hr'
  exact ⟨v, hv, hO.rd⟩
theorem FitRd.congr {W : World} {base gF : Nat} {T0 : TypeId} {m : Nat} {f g : Nat → List (Nat × Int)} (h : FitRd W base gF T0 m f) (hfg : ∀ r, r < m → f r = g r) : FitRd W base gF T0 m g := by
  obtain ⟨h1, h2, cs, S, hB, hs, hS, hr, hd⟩ := h
  refine ⟨h1, h2, cs, S, hB, hs, hS, fun r hr' => ?_, hd⟩
  rw [← hfg r hr']; exact hr r hr'

theorem grow_two (w : World) (a b : Obj) : (w.alloc a).alloc b = Sort.grow (w.drewN 0) #[a, b] := by
  have h : (w.heap.push a).push b = w.heap ++ #[a, b] := by apply Array.ext'; simp
  show ({ w with heap := (w.heap.push a).push b } : World) = { w with heap := w.heap ++ #[a, b], drawn := w.drawn + 0 }
  rw [h]; rfl
/-- an element that is sorted -/
structure ElH (S : Foot) (w : World) where
  A : Option Addr
  n : Nat
  c : Nat
  x : Nat × Int
  h : Ints S w A n (bitL x.1)
instance (S : Foot) (w : World) : Inhabited (ElH S w) := ⟨⟨none, 0, 0, (0, 0), SliceOf.nil _ _ _ _ _⟩⟩
def encE {S : Foot} {w : World} (r : ElH S w) : List Value := [.slice r.A r.n r.c, .int .i64 r.x.1, .int .i64 r.x.2]
def cmpE {S : Foot} {w : World} (x y : ElH S w) : Int := lexC (bitL x.x.1) (bitL y.x.1)
theorem swoE (S : Foot) (w : World) : SWO (ltOf (cmpE (S := S) (w := w))) := by
  refine ⟨fun x => ?_, fun x y z h1 h2 => ?_, fun x y z h1 h2 => ?_⟩
  · unfold ltOf cmpE; rw [lexC_refl]; rfl
  · exact decide_eq_true (lexC_trans _ _ _ (of_decide_eq_true h1) (of_decide_eq_true h2))
  · have h1 := of_decide_eq_false h1
    have h2 := of_decide_eq_false h2
    refine decide_eq_false fun h3 => ?_
    unfold cmpE at *
    by_cases e1 : lexC (bitL y.x.1) (bitL x.x.1) < 0
    · exact h2 (lexC_trans _ _ _ e1 h3)
    · have e2 := lexC_tri _ _ h1 e1
      rw [e2] at h3; exact h2 h3
theorem kept_sortK {α : Type} [Inhabited α] {enc : α → List Value} {w : World} {blk n : Nat} {d : Array α} {os : Array Obj} : Kept (fun k => k = blk) w (sortWorldK enc 3 w blk 0 n d os) := by
  refine ⟨rfl, rfl, rfl, size_sortWorldK_c enc 3 w blk 0 n d os, fun k hk hne => ?_⟩
  unfold sortWorldK
  rw [Sort.heap_grow_old _ _ (by simpa [putRowK, putRow, mapBlock, Sort.ahead] using hk)]
  simp only [putRowK, putRow, mapBlock, Sort.ahead]
  rw [Array.getElem?_modify, if_neg (fun e => hne e.symm)]

set_option maxHeartbeats 1000000 in
theorem sort_row {W : World} {base gF : Nat} {T0 : TypeId} {m : Nat} {f : Nat → List (Nat × Int)} (h : FitRd W base gF T0 m f) {r : Nat} (hr : r < m) (hlen : (f r).length ≤ 256) :
    ∃ v, W.cell? ⟨gF, r, none⟩ = some v ∧ Calls Try.prog 108 #[v, .func (.func 109) #[] #[]] W fun e w' =>
      e = .returned (.tuple #[]) ∧ ∃ Y : List (Nat × Int), Y.Perm (f r) ∧ (Y.Pairwise fun a b => ¬ lexC (bitL b.1) (bitL a.1) < 0) ∧ FitRd w' base gF T0 m (updL f r Y) ∧ Kept (fun k => base ≤ k) W w' := by
  obtain ⟨h1, h2, cs, S, hB, hs, hS, hrs, hd⟩ := h
  obtain ⟨v, hv, A, cap, hve, hx⟩ := hrs r hr
  refine ⟨v, (hB.cell r).trans hv, ?_⟩
  by_cases hnil : f r = []
  · rw [hve, hnil]
    refine (AnyF.slices_SortFunc_none Try.sortSome A cap _ W).mono ?_
    rintro e w' ⟨he, rfl⟩
    refine ⟨he, [], List.Perm.refl _, List.Pairwise.nil, ⟨h1, h2, cs, S, hB, hs, hS, fun r' hr' => ?_, hd⟩, Kept.refl _ _⟩
    unfold updL
    by_cases e : r' = r
    · rw [if_pos e, e]
      exact ⟨v, hv, by rw [← hnil]; exact ⟨A, cap, hve, hx⟩⟩
    · rw [if_neg e]; exact hrs r' hr'
  · obtain ⟨g, hA, hgb, hgl, hSg⟩ : ∃ g, A = some ⟨g, 0, none⟩ ∧ base ≤ g ∧ g < W.heap.size ∧ ¬ S g := by
      cases hf : f r with
      | nil => exact absurd hf hnil
      | cons p t =>
        obtain ⟨g, vs, q1, q2, q3, q4, _⟩ := hx 0 p (by rw [hf]; rfl)
        exact ⟨g, q1, q2, q3, q4⟩
    subst hA
    have hex : ∀ k, ∃ e : ElH S W, k < (f r).length → (f r)[k]? = some e.x ∧ ∀ (j : Nat) (u : Value), (encE e)[j]? = some u → W.cell? ⟨g, k * 3 + j, none⟩ = some u ∧ W.frozen? ⟨g, k * 3 + j, none⟩ = false := fun k => by
      by_cases hk : k < (f r).length
      · obtain ⟨g', vs, hAe, _, _, _, ⟨A', n', c', hvs, hI⟩, hcell⟩ := hx k (f r)[k] (List.getElem?_eq_getElem hk)
        obtain rfl : g = g' := by injection hAe with hAe; injection hAe
        exact ⟨⟨A', n', c', (f r)[k], hI⟩, fun _ => ⟨List.getElem?_eq_getElem hk, fun j u hu => hcell j u (by rw [hvs]; exact hu)⟩⟩
      · exact ⟨default, fun h => absurd h hk⟩
    obtain ⟨F, hF⟩ := Classical.axiomOfChoice hex
    obtain ⟨d, hdd⟩ : ∃ d : Array (ElH S W), d = ((List.range (f r).length).map F).toArray := ⟨_, rfl⟩
    have hds : d.size = (f r).length := by rw [hdd]; simp
    have hget : ∀ j, j < d.size → d[j]! = F j := fun j hj => by rw [getElem!_pos d j hj]; simp [hdd]
    have hdv : d.toList.map (·.x) = f r := by
      rw [hdd]
      apply List.ext_getElem?
      intro k
      simp only [List.map_map, List.getElem?_map]
      by_cases hk : k < (f r).length
      · rw [List.getElem?_range hk, (hF k hk).1]; rfl
      · rw [List.getElem?_eq_none (by simp; omega), List.getElem?_eq_none (by omega)]; rfl
    have hH : HoldsK encE 3 W g 0 d := fun j hj => by
      rw [size_flatK] at hj
      rw [get_flatK _ _ _ _ hj]
      have hj3 : j / 3 < d.size := by omega
      rw [hget _ hj3]
      have h3 : j % 3 < 3 := Nat.mod_lt _ (by decide)
      have hcc := (hF (j / 3) (by omega)).2 (j % 3) ((encE (F (j / 3)))[j % 3]!) (by
        rw [getElem!_pos _ _ (by unfold encE; simpa using h3)]
        exact List.getElem?_eq_getElem _)
      rw [show 0 + j = j / 3 * 3 + j % 3 by omega]
      exact hcc
    have hcon := AnyQ.slices_SortFunc Try.sortSome 3 Try.isAgg184 Try.sizeOf184 (encE (S := S) (w := W)) (fun _ => rfl) (fun x v hv => by
        unfold encE at hv; simp at hv; rcases hv with rfl | rfl | rfl <;> rfl) cmpE (swoE S W) 109 #[] g 0 cap d W eg_cmp
      (fun mm os dk hdk x y => by
        have hkk : Keeps S W (sortWorldK encE 3 W g 0 mm dk os) := (kept_sortK (enc := encE) (d := dk)).keeps (fun k hk e => hSg (e ▸ hk))
        refine (cmp_some _ (x.h.keep IntR.good hkk) (y.h.keep IntR.good hkk)).mono ?_
        rintro e w' ⟨he, rfl⟩
        exact ⟨he, 0, _, grow_two _ _ _⟩) hH hgl (by omega)
    rw [hds] at hcon
    rw [hve]
    refine Calls.mono hcon ?_
    rintro e w' ⟨he, d', q, os, hp, hso, rfl⟩
    obtain ⟨hsz, _, hpm⟩ := hp
    have hsz' : d'.size = (f r).length := by rw [hsz, hds]
    have hpm' : (d'.toList.map (·.x)).Perm (f r) := by
      rw [← hdv]
      refine List.Perm.map _ ?_
      have e1 : d'.extract 0 (f r).length = d' := by rw [← hsz']; simp
      have e2 : d.extract 0 (f r).length = d := by rw [← hds]; simp
      rw [e1, e2] at hpm
      exact hpm
    have hK : Kept (fun k => k = g) W (sortWorldK encE 3 W g 0 q d' os) := kept_sortK
    have hH' := holdsK_sortWorldK_c encE 3 W g 0 d d' q os hH hgl (by rw [hsz', hds])
    refine ⟨he, d'.toList.map (·.x), hpm', ?_, ?_, hK.mono fun k _ e => by rw [e]; exact hgb⟩
    · rw [List.pairwise_iff_getElem]
      intro i j hi hj hij
      simp only [List.length_map, Array.length_toList] at hi hj
      have h3 := hso i j (Nat.zero_le _) hij (by omega)
      rw [getElem!_pos d' i (by omega), getElem!_pos d' j (by omega)] at h3
      have h3 := of_decide_eq_false h3
      simpa [cmpE] using h3
    · have hgF : gF ≠ g := by omega
      refine ⟨h1, Nat.le_trans h2 hK.size, cs, S, (hK.block gF hB.lt hgF).trans hB, hs, fun k hk => ⟨(hS k hk).1, Nat.lt_of_lt_of_le (hS k hk).2 hK.size⟩, fun r' hr' => ?_, hd⟩
      unfold updL
      by_cases e : r' = r
      · rw [if_pos e, e]
        refine ⟨v, hv, some ⟨g, 0, none⟩, cap, by rw [hve]; simp [hsz'], fun k x hk => ?_⟩
        have hkl : k < d'.size := by have := of_getq' hk; simpa using this
        rw [List.getElem?_map, Array.getElem?_toList, Array.getElem?_eq_getElem hkl] at hk
        have hk : d'[k].x = x := by simpa using hk
        subst hk
        refine ⟨g, encE d'[k], rfl, hgb, Nat.lt_of_lt_of_le hgl hK.size, hSg, ⟨_, _, _, rfl, d'[k].h.keep IntR.good (hK.keeps (fun j hj e => hSg (e ▸ hj)))⟩, fun j u hu => ?_⟩
        have hj3 : j < 3 := by have := of_getq' hu; unfold encE at this; simpa using this
        have hcc := hH'.cell hkl hj3
        rw [getElem!_pos d' k hkl] at hcc
        have hu2 : (encE d'[k])[j]! = u := by
          rw [getElem!_pos (encE d'[k]) j (of_getq' hu)]
          have := List.getElem?_eq_getElem (of_getq' hu)
          rw [hu] at this
          injection this with this
          exact this.symm
        rw [hu2, Nat.zero_add] at hcc
        exact hcc
      · rw [if_neg e]
        obtain ⟨u, hu, hR⟩ := hrs r' hr'
        refine ⟨u, hu, hR.keep (hK.keeps (fun k hk e2 => ?_))⟩
        rcases hk with hk | hk
        · exact hSg (e2 ▸ hk)
        · subst e2
          exact hd r r' v u _ (fun h => e h.symm) hv hu (by rw [hve]; rfl) hk

end Go.Proofs.Ytnaadjhiahjlfaa
