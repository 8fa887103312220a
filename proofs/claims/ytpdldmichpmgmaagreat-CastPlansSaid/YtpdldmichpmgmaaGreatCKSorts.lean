/- Walks, layer 7: the list of a set; what draws is told. -/
import Derived.Shelf.SlSortCmp.NoneTotal
import Derived.Test.YtpdldmichpmgmaaGreatCCastHalls
import Derived.Test.YtpdldmichpmgmaaGreatCRange
import Derived.Test.YtpdldmichpmgmaaGreatCTBits
import Derived.Test.YtpdldmichpmgmaaGreatCTCmp
set_option linter.unusedVariables false
set_option linter.unusedSimpArgs false
set_option linter.all false
namespace Go.Proofs.YtpdldmichpmgmaaGreat
open Go.RowKit Go.Shelf Go.Sort

/-- a world that has only grown and drawn -/
def Grw (w w' : World) : Prop := w.drawn ≤ w'.drawn ∧ Below w.heap.size w w'
theorem Grw.refl (w : World) : Grw w w := ⟨Nat.le_refl _, Below.refl _ _⟩
theorem Grw.trans {a b c : World} (h : Grw a b) (k : Grw b c) : Grw a c := ⟨Nat.le_trans h.1 k.1, bl_call h.2 k.2 (Nat.le_refl _)⟩
theorem Grw.form {w w' : World} (h : Grw w w') : ∃ q os, w' = Sort.grow (w.drewN q) os := by
  obtain ⟨h1, h2⟩ := h
  refine ⟨w'.drawn - w.drawn, w'.heap.extract w.heap.size w'.heap.size, ?_⟩
  have hh : w'.heap = w.heap ++ w'.heap.extract w.heap.size w'.heap.size := by
    apply Array.ext_getElem?
    intro k
    by_cases hk : k < w.heap.size
    · rw [Array.getElem?_append_left hk]; exact h2.block k hk
    · rw [Array.getElem?_append_right (by omega)]
      by_cases hk2 : k < w'.heap.size
      · rw [Array.getElem?_extract]
        rw [if_pos (by omega)]
        congr 1; omega
      · rw [Array.getElem?_eq_none (by omega), Array.getElem?_eq_none (by simp; omega)]
  have hd : w'.drawn = w.drawn + (w'.drawn - w.drawn) := by omega
  obtain ⟨os1, os2, os3⟩ := (⟨h2.os, h2.tape, h2.output⟩ : w'.os = w.os ∧ w'.tape = w.tape ∧ w'.output = w.output)
  cases w' with
  | mk heap' tape' drawn' os' output' =>
    simp only at os1 os2 os3 hh hd
    subst os1 os2 os3
    unfold Sort.grow World.drewN
    dsimp only
    rw [← hh, ← hd]

theorem append_drawn {P : Program} (w : World) (base : Nat) (t ty e : TypeId) (i : TypeInfo) (z : Value) (size bytes : Nat) (ht : P.underlying t = some (.slice e)) (hi : P.info? e = some i) (hz : i.zero = some z)
    (hsize : i.size = size) (hby : i.bytes = bytes) (hzs : z.cells.size = size) (hsz : 0 < size)
    (v : Value) (n : Nat) (xs : List Value) (hown : w.ownsRow base e size v n xs)
    (a : Addr) (c : Nat) (news : List Value) (hl : news.length = size) (hnews : ∀ j u, news[j]? = some u → w.cell? (a.add j) = some u) (h1 : ∀ u ∈ news, u.oneCell' = true)
    (h63 : n + 1 ≤ maxLen) (hbytes : (n + 1) * bytes ≤ 140737488355328) {v' : Value} {w' : World}
    (hr : (Builtin.append_ #[t, t] ty #[v, .slice (some a) 1 c]).run P w = .ok v' w') : w.drawn ≤ w'.drawn := by
  subst hsize
  subst hby
  have hsmall : ((n + 1 : Nat) : Int) ≤ 9223372036854775807 := by simp only [maxLen] at h63; omega
  rcases hown.2 with ⟨rfl, hn0⟩ | ⟨g, cap, cur, rfl, hb, hgg, hle, hmax, hsz2, htake⟩
  · rw [run_append_nil (P := P) (w := w) t ty e i z ht hi hz a 1 c news (by omega) hnews (by omega) (by omega) (by have := hbytes; rw [hn0] at this; omega)] at hr
    injection hr with _ hr
    rw [← hr]
    exact Nat.le_succ _
  · by_cases hc : n + 1 ≤ cap
    · rw [run_append_room (P := P) w t ty e i ht hi g n cap cur hgg a 1 c news (by omega) hnews h1 hc (by rw [hl, hsz2]; calc n * i.size + i.size = (n + 1) * i.size := by rw [Nat.succ_mul]
                                                                                                                                _ ≤ cap * i.size := Nat.mul_le_mul_right _ hc)] at hr
      injection hr with _ hr
      rw [← hr]
      exact Nat.le_refl _
    · have hcn : cap = n := by omega
      rw [run_append_grow (P := P) (w := w) t ty e i z ht hi hz ⟨g, 0, none⟩ n cap xs hown.1 (hown.cells rfl) a 1 c news (by omega) hnews (by omega) hsmall (growslice_fits (by omega) hbytes)] at hr
      injection hr with _ hr
      rw [← hr]
      exact Nat.le_succ _
theorem wpList_append_g {P : Program} {ops : Array Oper} {rest : List Oper} {o : Oper} {a : Act} {Q : Exit → Act → World → Prop} (w : World) (hgd : o.guard = none) (s x : Operand) (t : TypeId)
    (ho : o.op = .call { callee := .builtin .append, args := #[s, x], argTypes := #[t, t] })
    {α : Type} {R : Rd α} {m : Nat} (g : R.Good m) {S : Foot} (base : Nat) (e : TypeId) (i : TypeInfo) (z : Value) (bytes : Nat) (ht : P.underlying t = some (.slice e)) (hi : P.info? e = some i) (hz : i.zero = some z)
    (hsize : i.size = m) (hby : i.bytes = bytes) (hzs : z.cells.size = m) (hsz : 0 < m)
    (v : Value) (xs : List α) (y : α) (n : Nat) (hn : xs.length = n) (hs : a.eval s = v) (hown : OwnL R m S w base e v xs)
    (ad : Addr) (c : Nat) (news : List Value) (hx : a.eval x = .slice (some ad) 1 c) (hR : R S w y news) (hnews : ∀ j u, news[j]? = some u → w.cell? (ad.add j) = some u)
    (h63 : n + 1 ≤ maxLen) (hbytes : (n + 1) * bytes ≤ 140737488355328) (hbase : base ≤ w.heap.size) (hS : ¬ S w.heap.size)
    (h : ∀ A' cap' w', OwnL R m S w' base e (.slice (some ⟨A', 0, none⟩) (n + 1) cap') (xs ++ [y]) → w.grownBy w' v.ownBlock → (v.ownBlock = some A' ∨ A' = w.heap.size) → w.drawn ≤ w'.drawn → wpList P ops Q rest (a.put o.dst (.slice (some ⟨A', 0, none⟩) (n + 1) cap')) w') : wpList P ops Q (o :: rest) a w := by
  subst hn
  obtain ⟨hS0, cells, hrow, hcells⟩ := hown
  refine wpList_plain hgd fun K hK => ?_
  obtain ⟨v', w', hr, hown', hgrow, _, hat⟩ := run_append_own_at (P := P) w base t o.type e i z m bytes ht hi hz hsize hby hzs hsz v xs.length cells hrow ad 1 c news (by rw [g.len hR]; omega) hnews (g.one hR) h63 hbytes hbase
  have hdr := append_drawn (P := P) w base t o.type e i z m bytes ht hi hz hsize hby hzs hsz v xs.length cells hrow ad c news (g.len hR) hnews (g.one hR) h63 hbytes hr
  unfold Oper.wp execOp
  simp only [ho, resolve, invoke, builtin, Sem.run_bind, Sem.run_pure, Result.andThen_ok, List.map_toArray, List.map_cons, List.map_nil, hs, hx, hr]
  refine hK _ _ ?_
  obtain ⟨gb, cap, rfl⟩ := ownsRow_succ hown'
  have hat' : v.ownBlock = some gb ∨ gb = w.heap.size := by
    rcases hat with e | e
    · left; rw [← e]; rfl
    · right; injection e
  have hk : Keeps S w w' := Keeps.grown hgrow hS0
  refine h gb cap w' ⟨fun k hk' => ?_, cells ++ news, by simpa using hown', fun k y' hy => ?_⟩ hgrow hat' hdr
  · have : gb = k := by simpa [Value.ownBlock] using hk'
    subst this
    rcases hat' with e | e
    · exact hS0 _ e
    · rw [e]; exact hS
  · by_cases hlt : k < xs.length
    · rw [List.getElem?_append_left hlt] at hy
      obtain ⟨vs, hR', hc⟩ := hcells k y' hy
      refine ⟨vs, g.keep hR' hk, fun j u hu => ?_⟩
      have h3 := hc j u hu
      rw [List.getElem?_append_left (of_getq' h3)]; exact h3
    · have hk2 : k = xs.length := by have := of_getq' hy; simp at this; omega
      subst hk2
      simp at hy; subst hy
      refine ⟨news, g.keep hR hk, fun j u hu => ?_⟩
      rw [List.getElem?_append_right (by rw [hrow.1]; omega), hrow.1]
      rw [show xs.length * m + j - xs.length * m = j by omega]; exact hu

set_option maxRecDepth 100000 in
set_option maxHeartbeats 1000000 in
theorem klist_any (s : Nat) (w : World) (hs : s < 256) : Calls Tryz.prog 34 #[.int .i64 s] w fun e w' => (∃ A' c', e = .returned (.slice A' (bitL s).length c') ∧ Ints (fun k => w.heap.size ≤ k) w' A' (bitL s).length (bitL s)) ∧ Grw w w' := by
  obtain ⟨i0, hi0, hz0, hz1, hz2⟩ := info_parts infoInt
  obtain ⟨hl8, hlb⟩ := len_bit s hs
  have hlen : Calls Tryz.prog 65 #[.int .u64 s] w fun e w' => e = .returned (.int .i64 (Lib.bitLen s)) ∧ w = w' := Calls.mono (Any.bits_Len Tryz.bitsLen s w (by omega) (by omega)) fun _ _ ⟨he, hw⟩ => ⟨he, hw.symm⟩
  obtain ⟨bl, hbl⟩ : ∃ bl, Lib.bitLen s = bl := ⟨_, rfl⟩
  rw [hbl] at hl8 hlb hlen
  have HLB := Lib.hid hlb
  have HLEN := Lib.hid hlen
  have hb8 := bitL_len s hs
  clear hbl hlen hlb
  go_enter Tryz.func34, Tryz.ntmps34
  go_wp2_with fail
  refine Calls.mono (f := 65) HLEN.out ?_
  rintro e w' ⟨rfl, rfl⟩
  go_wp2_with fail
  go_loopw [2, 3, 7] (fun v _ i' wr => ∃ (k j cap : Nat) (A' : Option Addr) (l1 : List Int), i' = .int .i64 k ∧ k ≤ bl ∧ v = .slice A' j cap ∧ Hid (l1.length = j) ∧ j ≤ k ∧ OwnL IntR 1 (fun _ => False) wr w.heap.size 3 (.slice A' j cap) l1 ∧ Grw w wr ∧ Hid (l1 = bitU s k)) (fun _ _ i' _ => bl - (intOf i').toNat)
  case atStart => exact ⟨0, 0, 0, none, [], rfl, Nat.zero_le _, rfl, rfl, Nat.le_refl _, OwnL.nil _ _ _ _ _ _, Grw.refl _, rfl⟩
  case round =>
    obtain ⟨k, j, cap, A', l1, rfl, hk, rfl, Hj, hjk, hO, hB, Hu⟩ := hrel
    by_cases hlt : k < bl
    · have hki : (k : Int) < bl := by omega
      have hbt := bit_test s hs k (by omega)
      cases htb : s.testBit k
      · rw [htb] at hbt
        have HU2 : Hid (l1 = bitU s (k + 1)) := by rw [Hid, bitU_succ, htb, Hu.out]; simp
        clear htb
        go_wp2_with fail
        go_roundw
        case rel => exact ⟨k + 1, j, cap, A', l1, by go_num, by omega, rfl, Hj.out, by omega, hO, hB, HU2⟩
        case measure => simp [intOf]; omega
      · rw [htb] at hbt
        have HU2 : Hid (l1 ++ [(k : Int)] = bitU s (k + 1)) := by rw [Hid, bitU_succ, htb, Hu.out]; simp
        clear htb
        go_wp2_with (at_builtin; refine wpList_append_g _ rfl (.tmp 15) (.tmp 17) _ rfl IntR.good w.heap.size 3 i0 _ 8 Tryz.underlying30 hi0 hz0 hz1 hz2 rfl (by omega) _ l1 (k : Int) j Hj.out rfl (hO.alloc IntR.good _) ⟨_, 0, none⟩ 1 [.int .i64 k] rfl rfl (news_new rfl rfl) ?c1 ?c2 ?c3 (fun h => h) ?_)
        case c1 => simp only [maxLen]; omega
        case c2 => omega
        case c3 => have := hB.2.size; simp; omega
        intro A2 cap2 w2 hO2 hg2 _ hd2
        have hB2 : Grw w w2 := ⟨Nat.le_trans hB.1 hd2, bl_grown (bl_alloc hB.2 _ (Nat.le_refl _)) (hO.alloc IntR.good _) hg2 (Nat.le_refl _) (Nat.le_refl _)⟩
        have Hj2 : Hid ((l1 ++ [(k : Int)]).length = j + 1) := by rw [Hid, List.length_append, Hj.out]; rfl
        clear hg2 hd2 hO hB hbt
        go_wp2_with fail
        go_roundw
        case rel => exact ⟨k + 1, j + 1, cap2, _, l1 ++ [(k : Int)], by go_num, by omega, rfl, Hj2, by omega, hO2, hB2, HU2⟩
        case measure => simp [intOf]; omega
    · obtain rfl : k = bl := by omega
      have hl : l1 = bitL s := by rw [Hu.out]; exact HLB.out
      have hj : j = (bitL s).length := by rw [← Hj.out, hl]
      have hS := hO.slice (T := fun k => w.heap.size ≤ k) IntR.good rfl (by simp only [maxLen]; omega) (fun _ h => h.elim) (fun _ h _ => h)
      rw [hl, hj] at hS
      have HS := Lib.hid hS
      have HJ := Lib.hid hj
      have HB := Lib.hid hB
      clear hl hj hS hO hB
      go_wp2
      go_ret
      exact ⟨⟨A', cap, by rw [← HJ.out]; rfl, HS.out⟩, HB.out⟩

end Go.Proofs.YtpdldmichpmgmaaGreat

namespace Go.Proofs
open Go.Shelf Go.RowKit
def Tryz.sortInts_ren : Go.Shelf.Ren := ⟨fun | 6 => 60 | 15 => 65 | 14 => 81 | 28 => 83 | 29 => 84 | 20 => 97 | 21 => 98 | 22 => 99 | 23 => 100 | 24 => 101 | 25 => 102 | 26 => 103 | 27 => 104 | 46 => 114 | 47 => 115 | 48 => 116 | 49 => 117 | 50 => 118 | 57 => 120 | n => n, fun | 22 => 30 | 24 => 3 | 25 => 118 | 3 => 3 | 39 => 77 | 0 => 0 | 53 => 124 | 55 => 126 | 4 => 4 | 46 => 158 | 45 => 157 | 50 => 121 | 5 => 5 | 9 => 9 | 66 => 170 | 70 => 174 | 76 => 177 | 77 => 178 | n => n, fun n => n⟩
theorem Tryz.sortInts : SlLaysF.n6 Tryz.prog Tryz.sortInts_ren where
  mixed := by kernel_rfl
  f6 := ⟨Tryz.f60.name, by kernel_rfl, Tryz.func60.trans (congrArg some (by kernel_rfl))⟩
  f14 := ⟨Tryz.f81.name, by kernel_rfl, Tryz.func81.trans (congrArg some (by kernel_rfl))⟩
  f15 := Tryz.func65.trans (congrArg some (by kernel_rfl))
  f20 := ⟨Tryz.f97.name, by kernel_rfl, Tryz.func97.trans (congrArg some (by kernel_rfl))⟩
  f21 := ⟨Tryz.f98.name, by kernel_rfl, Tryz.func98.trans (congrArg some (by kernel_rfl))⟩
  f22 := ⟨Tryz.f99.name, by kernel_rfl, Tryz.func99.trans (congrArg some (by kernel_rfl))⟩
  f23 := ⟨Tryz.f100.name, by kernel_rfl, Tryz.func100.trans (congrArg some (by kernel_rfl))⟩
  f24 := ⟨Tryz.f101.name, by kernel_rfl, Tryz.func101.trans (congrArg some (by kernel_rfl))⟩
  f25 := ⟨Tryz.f102.name, by kernel_rfl, Tryz.func102.trans (congrArg some (by kernel_rfl))⟩
  f26 := ⟨Tryz.f103.name, by kernel_rfl, Tryz.func103.trans (congrArg some (by kernel_rfl))⟩
  f27 := ⟨Tryz.f104.name, by kernel_rfl, Tryz.func104.trans (congrArg some (by kernel_rfl))⟩
  f28 := Tryz.func83.trans (congrArg some (by kernel_rfl))
  f29 := Tryz.func84.trans (congrArg some (by kernel_rfl))
  f46 := ⟨Tryz.f114.name, by kernel_rfl, Tryz.func114.trans (congrArg some (by kernel_rfl))⟩
  f47 := Tryz.func115.trans (congrArg some (by kernel_rfl))
  f48 := Tryz.func116.trans (congrArg some (by kernel_rfl))
  f49 := ⟨Tryz.f117.name, by kernel_rfl, Tryz.func117.trans (congrArg some (by kernel_rfl))⟩
  f50 := ⟨Tryz.f118.name, by kernel_rfl, Tryz.func118.trans (congrArg some (by kernel_rfl))⟩
  f57 := ⟨Tryz.f120.name, by kernel_rfl, Tryz.func120.trans (congrArg some (by kernel_rfl))⟩
  t0 := Tryz.underlying0
  a0 := Tryz.isAgg0
  z0 := Tryz.sizeOf0
  v0 := Tryz.zeroValue0
  t3 := Tryz.underlying3
  a3 := Tryz.isAgg3
  z3 := Tryz.sizeOf3
  v3 := Tryz.zeroValue3
  t4 := Tryz.underlying4
  a4 := Tryz.isAgg4
  z4 := Tryz.sizeOf4
  v4 := Tryz.zeroValue4
  t5 := Tryz.underlying5
  a5 := Tryz.isAgg5
  z5 := Tryz.sizeOf5
  v5 := Tryz.zeroValue5
  t9 := Tryz.underlying9
  a9 := Tryz.isAgg9
  z9 := Tryz.sizeOf9
  v9 := Tryz.zeroValue9
  t22 := Tryz.underlying30
  a22 := Tryz.isAgg30
  z22 := Tryz.sizeOf30
  v22 := Tryz.zeroValue30
  a24 := Tryz.isAgg3
  z24 := Tryz.sizeOf3
  t25 := Tryz.underlying118
  a25 := Tryz.isAgg118
  z25 := Tryz.sizeOf118
  v25 := Tryz.zeroValue118
  t39 := Tryz.underlying77
  a39 := Tryz.isAgg77
  z39 := Tryz.sizeOf77
  v39 := Tryz.zeroValue77
  t45 := Tryz.underlying157
  a45 := Tryz.isAgg157
  z45 := Tryz.sizeOf157
  v45 := Tryz.zeroValue157
  t46 := Tryz.underlying158
  a46 := Tryz.isAgg158
  z46 := Tryz.sizeOf158
  v46 := Tryz.zeroValue158
  t50 := Tryz.underlying121
  a50 := Tryz.isAgg121
  z50 := Tryz.sizeOf121
  v50 := Tryz.zeroValue121
  t53 := Tryz.underlying124
  a53 := Tryz.isAgg124
  z53 := Tryz.sizeOf124
  v53 := Tryz.zeroValue124
  t55 := Tryz.underlying126
  a55 := Tryz.isAgg126
  z55 := Tryz.sizeOf126
  v55 := Tryz.zeroValue126
  t66 := Tryz.underlying170
  a66 := Tryz.isAgg170
  z66 := Tryz.sizeOf170
  v66 := Tryz.zeroValue170
  t70 := Tryz.underlying174
  a70 := Tryz.isAgg174
  z70 := Tryz.sizeOf174
  v70 := Tryz.zeroValue174
  t76 := Tryz.underlying177
  a76 := Tryz.isAgg177
  z76 := Tryz.sizeOf177
  v76 := Tryz.zeroValue177
  t77 := Tryz.underlying178
  a77 := Tryz.isAgg178
  z77 := Tryz.sizeOf178
  v77 := Tryz.zeroValue178
end Go.Proofs
namespace Go.Proofs.YtpdldmichpmgmaaGreat
open Go.RowKit Go.Shelf Go.Sort

/-- how two sets stand to each other: by size, then in order -/
def cmpM (a b : Nat) : Int := if ((bitL a).length : Int) - (bitL b).length = 0 then lexC (bitL a) (bitL b) else (bitL a).length - (bitL b).length
theorem cmpM_neg {a b : Nat} : cmpM a b < 0 ↔ (bitL a).length < (bitL b).length ∨ ((bitL a).length = (bitL b).length ∧ lexC (bitL a) (bitL b) < 0) := by
  unfold cmpM
  split <;> omega
theorem cmpM_refl (a : Nat) : ¬ cmpM a a < 0 := by rw [cmpM_neg, lexC_refl]; omega
theorem cmpM_trans {a b c : Nat} (h1 : cmpM a b < 0) (h2 : cmpM b c < 0) : cmpM a c < 0 := by
  rw [cmpM_neg] at *
  rcases h1 with h1 | ⟨h1, h3⟩ <;> rcases h2 with h2 | ⟨h2, h4⟩
  · left; omega
  · left; omega
  · left; omega
  · right; exact ⟨by omega, lexC_trans _ _ _ h3 h4⟩
theorem cmpM_ntrans {a b c : Nat} (h1 : ¬ cmpM a b < 0) (h2 : ¬ cmpM b c < 0) : ¬ cmpM a c < 0 := by
  intro h3
  rw [cmpM_neg] at *
  have h1 := not_or.1 h1
  have h2 := not_or.1 h2
  rcases h3 with h3 | ⟨h3, h4⟩
  · omega
  · have e1 : (bitL a).length = (bitL b).length := by omega
    have e2 : (bitL b).length = (bitL c).length := by omega
    have n1 : ¬ lexC (bitL a) (bitL b) < 0 := fun h => h1.2 ⟨e1, h⟩
    have n2 : ¬ lexC (bitL b) (bitL c) < 0 := fun h => h2.2 ⟨e2, h⟩
    by_cases n3 : lexC (bitL b) (bitL a) < 0
    · exact n2 (lexC_trans _ _ _ n3 h4)
    · rw [lexC_tri _ _ n1 n3] at h4; exact n2 h4
theorem cmpM_eq {a b : Nat} (h1 : ¬ cmpM a b < 0) (h2 : ¬ cmpM b a < 0) : bitL a = bitL b := by
  rw [cmpM_neg] at h1 h2
  have h1 := not_or.1 h1
  have h2 := not_or.1 h2
  have e1 : (bitL a).length = (bitL b).length := by omega
  exact lexC_tri _ _ (fun h => h1.2 ⟨e1, h⟩) (fun h => h2.2 ⟨e1.symm, h⟩)
/-- a set as a number -/
def maskL (l : List Int) : Nat := l.foldl (fun m i => m + 2 ^ i.toNat) 0
def setsM (n : Nat) : List Nat := (setsL n).map maskL
theorem setsM_bits : ∀ n, n < 7 → (setsM n).map bitL = setsL n := by decide +kernel
theorem setsM_perm : ∀ n, n < 7 → (setsM n).Perm (List.range (2 ^ n)) := by decide +kernel
theorem setsM_sorted : ∀ n, n < 7 → (setsM n).Pairwise fun a b => cmpM a b < 0 := by decide +kernel
theorem sorted_eq : ∀ (Y Z : List Nat), Y.Perm Z → (Y.Pairwise fun a b => ¬ cmpM b a < 0) → (Z.Pairwise fun a b => cmpM a b < 0) → Y = Z
  | [], Z, hp, _, _ => (List.nil_perm.1 hp).symm
  | y :: Y, [], hp, _, _ => by simpa using hp.length_eq
  | y :: Y, z :: Z, hp, h1, h2 => by
    obtain ⟨a1, a2⟩ := List.pairwise_cons.1 h1
    obtain ⟨b1, b2⟩ := List.pairwise_cons.1 h2
    have hyz : y = z := by
      rcases List.mem_cons.1 (hp.mem_iff.1 List.mem_cons_self) with h | h
      · exact h
      · rcases List.mem_cons.1 (hp.mem_iff.2 (List.mem_cons_self (a := z) (l := Z))) with h3 | h3
        · exact h3.symm
        · exact absurd (b1 y h) (a1 z h3)
    subst hyz
    rw [sorted_eq Y Z (List.perm_cons y |>.1 hp) a2 b2]
end Go.Proofs.YtpdldmichpmgmaaGreat

namespace Go.Proofs.YtpdldmichpmgmaaGreat
open Go.RowKit Go.Shelf

theorem eg_KSet : Enters Tryz.prog 61 := enters_of Tryz.func61 (by kernel_rfl) rfl
theorem Grw.of_eq {w : World} : Grw w w := Grw.refl w
set_option maxRecDepth 100000 in
set_option maxHeartbeats 1000000 in
theorem ksets1_any (a b : Nat) (ha : a < 256) (hb : b < 256) (w : World) : Calls Tryz.prog 61 #[.int .i64 (a : Int), .int .i64 (b : Int)] w fun e w' => e = .returned (.int .i64 (cmpM a b)) ∧ Grw w w' := by
  have h8 := bitL_len a ha
  have h9 := bitL_len b hb
  obtain ⟨la, hla⟩ : ∃ l, (bitL a).length = l := ⟨_, rfl⟩
  obtain ⟨lb, hlb⟩ : ∃ l, (bitL b).length = l := ⟨_, rfl⟩
  have HD : Hid (cmpM a b = if (la : Int) - lb = 0 then lexC (bitL a) (bitL b) else la - lb) := by rw [Hid, cmpM, hla, hlb]
  have HO1 : Hid (∀ w, Calls Tryz.prog 37 #[.int .u64 a] w fun e w' => e = .returned (.int .i64 la) ∧ w = w') := fun w => by have := ones_any a ha w; rw [hla] at this; exact this
  have HO2 : Hid (∀ w, Calls Tryz.prog 37 #[.int .u64 b] w fun e w' => e = .returned (.int .i64 lb) ∧ w = w') := fun w => by have := ones_any b hb w; rw [hlb] at this; exact this
  rw [hla] at h8
  rw [hlb] at h9
  have hwr : IntKind.i64.wrap ((la : Int) - lb) = la - lb := by rw [IntKind.wrap_i64]; omega
  obtain ⟨dd, hdd⟩ : ∃ d : Int, (la : Int) - lb = d := ⟨_, rfl⟩
  rw [hdd] at HD hwr
  have hdb : -8 ≤ dd ∧ dd ≤ 8 := by omega
  clear hla hlb
  go_enter Tryz.func61, Tryz.ntmps61
  go_wp2_with fail
  refine (HO1.out _).mono ?_
  rintro e w' ⟨rfl, rfl⟩
  go_wp2_with fail
  refine (HO2.out _).mono ?_
  rintro e w' ⟨rfl, rfl⟩
  by_cases hz : dd = 0
  · have HR : Hid (cmpM a b = lexC (bitL a) (bitL b)) := by rw [Hid, HD.out, if_pos hz]
    have hdz : (dd != 0) = false := by rw [hz]; rfl
    rw [hz] at hdd
    go_wp2_with fail
    refine (klist_any a w ha).mono ?_
    rintro e w1 ⟨⟨A1, c1, rfl, i1⟩, g1⟩
    go_wp2_with fail
    refine (klist_any b w1 hb).mono ?_
    rintro e w2 ⟨⟨A2, c2, rfl, i2⟩, g2⟩
    go_wp2_with fail
    refine (compare_any w2 (i1.keep IntR.good (Keeps.below g2.2)) i2).mono ?_
    rintro e w3 ⟨rfl, rfl⟩
    go_wp2_with fail
    go_ret
    exact ⟨by rw [HR.out]; rfl, g1.trans g2⟩
  · have HR : Hid (cmpM a b = dd) := by rw [Hid, HD.out, if_neg hz]
    have hdz : (dd != 0) = true := by simpa using hz
    go_wp2_with fail
    go_ret
    exact ⟨by rw [HR.out]; rfl, Grw.refl _⟩
end Go.Proofs.YtpdldmichpmgmaaGreat

namespace Go.Proofs.YtpdldmichpmgmaaGreat
open Go.RowKit Go.Shelf Go.Sort

theorem kept_sort1 {α : Type} [Inhabited α] {enc : α → Value} {w : World} {blk n : Nat} {d : Array α} {os : Array Obj} : Kept (fun k => k = blk) w (sortWorld enc w blk 0 n d os) := by
  refine ⟨rfl, rfl, rfl, by simp [sortWorld, Sort.grow, putRow, mapBlock, Sort.ahead], fun k hk hne => ?_⟩
  unfold sortWorld
  rw [Sort.heap_grow_old _ _ (by simpa [putRow, mapBlock, Sort.ahead] using hk)]
  simp only [putRow, mapBlock, Sort.ahead]
  rw [Array.getElem?_modify, if_neg (fun e => hne e.symm)]
structure M8 where
  v : Nat
  h : v < 256
instance : Inhabited M8 := ⟨⟨0, by decide⟩⟩
def encM (x : M8) : Value := .int .i64 (x.v : Int)
def cmpE8 (x y : M8) : Int := cmpM x.v y.v
theorem swo8 : SWO (ltOf cmpE8) := by
  refine ⟨fun x => ?_, fun x y z h1 h2 => ?_, fun x y z h1 h2 => ?_⟩
  · exact decide_eq_false (cmpM_refl _)
  · exact decide_eq_true (cmpM_trans (of_decide_eq_true h1) (of_decide_eq_true h2))
  · exact decide_eq_false (cmpM_ntrans (of_decide_eq_false h1) (of_decide_eq_false h2))
set_option maxHeartbeats 1000000 in
theorem sort_ints {W : World} {base k cap : Nat} {Ad : Option Addr} {vs : List Nat} (hO : OwnL IntR 1 (fun _ => False) W base 3 (.slice Ad k cap) (vs.map fun v : Nat => (v : Int))) (hk : vs.length = k) (h8 : ∀ v ∈ vs, v < 256) (h0 : 0 < k) (hkb : k ≤ 1000) :
    Calls Tryz.prog 60 #[.slice Ad k cap, .func (.func 61) #[] #[]] W fun e w' => e = .returned (.tuple #[]) ∧
      ∃ Y : List Nat, Y.Perm vs ∧ (Y.Pairwise fun a b => ¬ cmpM b a < 0) ∧ Ints (fun j => base ≤ j) w' Ad k (Y.map fun v : Nat => (v : Int)) ∧ Kept (fun j => base ≤ j) W w' := by
  obtain ⟨hS0, cells, hrow, hcells⟩ := hO
  rcases hrow.2 with ⟨hv, hn⟩ | ⟨g, cap', cur, hv, hb, hg, hnc, _, hsz, htk⟩
  · rw [List.length_map] at hn; omega
  · injection hv with e1 e2 e3
    subst e1 e3
    rw [List.length_map] at e2 htk hnc
    have hgl : g < W.heap.size := (Array.getElem?_eq_some_iff.1 hg).1
    have hB : Blk W g 3 cur := hg
    have hcell : ∀ (j v : Nat), vs[j]? = some v → W.cell? ⟨g, j, none⟩ = some (.int .i64 (v : Int)) := fun j v hj => by
      obtain ⟨us, hus, hc⟩ := hcells j (v : Int) (by rw [List.getElem?_map, hj]; rfl)
      have hus : us = [.int .i64 (v : Int)] := hus
      subst hus
      have h := hc 0 _ rfl
      rw [← htk, List.getElem?_take, if_pos (by have := of_getq' hj; omega)] at h
      rw [hB.cell j]
      simpa using h
    obtain ⟨d, hd⟩ : ∃ d : Array M8, d = (vs.pmap (fun v h => ⟨v, h⟩) h8).toArray := ⟨_, rfl⟩
    have hds : d.size = vs.length := by rw [hd]; simp
    have hdv : d.toList.map (·.v) = vs := by rw [hd]; simp [List.map_pmap]
    have hget : ∀ j, j < d.size → vs[j]? = some (d[j]!).v := fun j hj => by
      rw [getElem!_pos d j hj, ← hdv, List.getElem?_map, Array.getElem?_toList, Array.getElem?_eq_getElem hj]; rfl
    have hH : Holds encM W g 0 d := fun j hj => by
      rw [Nat.zero_add]
      exact ⟨hcell j _ (hget j hj), hB.frozen j⟩
    have hcon := Any.slices_SortFunc Tryz.sortInts encM (fun _ => rfl) cmpE8 swo8 61 #[] g 0 cap d W eg_KSet
      (fun m os dk _ x y => (ksets1_any x.v y.v x.h y.h _).mono fun e w' h => ⟨h.1, h.2.form⟩) hH hgl (by omega)
    rw [hds, hk] at hcon
    refine Calls.mono hcon ?_
    rintro e w' ⟨he, d', n, os, hp, hso, rfl⟩
    obtain ⟨hsz', _, hpm⟩ := hp
    have hsz' : d'.size = k := by rw [hsz', hds, hk]
    have hpm' : (d'.toList.map (·.v)).Perm vs := by
      rw [← hdv]
      refine List.Perm.map _ ?_
      have e1 : d'.extract 0 k = d' := by rw [← hsz']; simp
      have e2 : d.extract 0 k = d := by rw [← hk, ← hds]; simp
      rw [e1, e2] at hpm
      exact hpm
    have hK : Kept (fun j => j = g) W (sortWorld encM W g 0 n d' os) := kept_sort1
    have hH' := holds_sortWorld encM W g 0 n d d' os hgl hH (by rw [hsz', hds, hk])
    refine ⟨he, d'.toList.map (·.v), hpm', ?_, ?_, hK.mono fun j _ e => by rw [e]; exact hb⟩
    · rw [List.pairwise_iff_getElem]
      intro i j hi hj hij
      simp only [List.length_map, Array.length_toList] at hi hj
      have h1 := hso i j (Nat.zero_le _) hij (by omega)
      rw [getElem!_pos d' i (by omega), getElem!_pos d' j (by omega)] at h1
      have h1 := of_decide_eq_false h1
      simpa [cmpE8] using h1
    · refine ⟨by simp [hsz'], by unfold maxLen; omega, fun j x hx => ?_⟩
      have hj : j < d'.size := by have := of_getq' hx; simpa using this
      rw [List.getElem?_map, List.getElem?_map, Array.getElem?_toList, Array.getElem?_eq_getElem hj] at hx
      have hx : ((d'[j].v : Nat) : Int) = x := by simpa using hx
      subst hx
      have hh := (hH' j hj).1
      rw [getElem!_pos d' j hj, Nat.zero_add] at hh
      refine ⟨g, 0, [encM d'[j]], rfl, hb, Nat.lt_of_lt_of_le hgl hK.size, rfl, fun i u hu => ?_⟩
      cases i with
      | zero => simp at hu; subst hu; simpa using hh
      | succ i => simp at hu
end Go.Proofs.YtpdldmichpmgmaaGreat

namespace Go.Proofs.YtpdldmichpmgmaaGreat
open Go.RowKit Go.Shelf

theorem Ints.of_own {w : World} {base n cap : Nat} {A : Option Addr} {e : TypeId} {xs : List Int} (h : OwnL IntR 1 (fun _ => False) w base e (.slice A n cap) xs) (hn : n ≤ 9223372036854775807) : Ints (fun k => base ≤ k) w A n xs :=
  h.slice (T := fun k => base ≤ k) IntR.good rfl (by simpa only [maxLen] using hn) (fun _ h => h.elim) (fun _ h _ => h)
/-- the numbers below one -/
def natI (p : Nat) : List Int := (List.range p).map fun v : Nat => (v : Int)
theorem natI_succ (p : Nat) : natI (p + 1) = natI p ++ [(p : Int)] := by unfold natI; rw [List.range_succ, List.map_append]; rfl
theorem natI_len (p : Nat) : (natI p).length = p := by unfold natI; simp
theorem two_pow6 : ∀ n, n < 7 → IntKind.i64.wrap (2 ^ n) = ((2 ^ n : Nat) : Int) ∧ 1 ≤ 2 ^ n ∧ 2 ^ n ≤ 64 := by decide +kernel
set_option maxRecDepth 100000 in
set_option maxHeartbeats 1000000 in
theorem ksets_any (n : Nat) (hn : n ≤ 6) (w : World) : Calls Tryz.prog 31 #[.int .i64 (n : Int)] w fun e w' => (∃ A c, e = .returned (.slice A (setsM n).length c) ∧ Ints (fun k => w.heap.size ≤ k) w' A (setsM n).length ((setsM n).map fun v : Nat => (v : Int))) ∧ Below w.heap.size w w' := by
  obtain ⟨i0, hi0, hz0, hz1, hz2⟩ := info_parts infoInt
  obtain ⟨hw2, hp1, hp64⟩ := two_pow6 n (by omega)
  have HP := Lib.hid (setsM_perm n (by omega))
  obtain ⟨q, hq⟩ : ∃ q : Nat, 2 ^ n = q := ⟨_, rfl⟩
  rw [hq] at hw2 hp1 hp64
  have hni : (n : Int) < 64 := by omega
  have HQ := Lib.hid hq
  clear hq
  go_enter Tryz.func31, Tryz.ntmps31
  go_wp2_with fail
  go_loopw [2, 3, 6] (fun v _ i' wr => ∃ (k cap : Nat) (A' : Option Addr), i' = .int .i64 k ∧ k ≤ q ∧ v = .slice A' k cap ∧ Hid (OwnL IntR 1 (fun _ => False) wr w.heap.size 3 (.slice A' k cap) (natI k)) ∧ Hid (Below w.heap.size w wr)) (fun _ _ i' _ => q - (intOf i').toNat)
  case atStart => exact ⟨0, 0, none, rfl, Nat.zero_le _, rfl, OwnL.nil _ _ _ _ _ _, Below.refl _ _⟩
  case round =>
    obtain ⟨k, cap, A', rfl, hk, rfl, HO, HB⟩ := hrel
    by_cases hlt : k < q
    · have hki : (k : Int) < q := by omega
      go_wp2_with (at_builtin; refine wpList_append_n _ rfl (.tmp 9) (.tmp 11) _ rfl IntR.good w.heap.size 3 i0 _ 8 Tryz.underlying30 hi0 hz0 hz1 hz2 rfl (by omega) _ (natI k) (k : Int) k (natI_len k) rfl (HO.out.alloc IntR.good _) ⟨_, 0, none⟩ 1 [.int .i64 k] rfl rfl (news_new rfl rfl) ?c1 ?c2 ?c3 (fun h => h) ?_)
      case c1 => simp only [maxLen]; omega
      case c2 => omega
      case c3 => have := HB.out.size; simp; omega
      intro A2 cap2 w2 hO2 hg2 _
      have HB2 : Hid (Below w.heap.size w w2) := bl_grown (bl_alloc HB.out _ (Nat.le_refl _)) (HO.out.alloc IntR.good _) hg2 (Nat.le_refl _) (Nat.le_refl _)
      have HO2 : Hid (OwnL IntR 1 (fun _ => False) w2 w.heap.size 3 (.slice (some ⟨A2, 0, none⟩) (k + 1) cap2) (natI (k + 1))) := by rw [Hid, natI_succ]; exact hO2
      clear hg2 HO HB hO2
      go_wp2_with fail
      go_roundw
      case rel => exact ⟨k + 1, cap2, _, by go_num, by omega, rfl, HO2, HB2⟩
      case measure => simp [intOf]; omega
    · obtain rfl : k = q := by omega
      have hki : ¬ (k : Int) < k := by omega
      go_wp2_with fail
      refine (sort_ints (vs := List.range k) HO.out (by simp) (fun v hv => by have := List.mem_range.1 hv; omega) (by omega) (by omega)).mono ?_
      rintro e w2 ⟨rfl, Y, hp, hs, hI, hK⟩
      have hY : Y = setsM n := sorted_eq Y _ (hp.trans (by rw [← HQ.out]; exact HP.out.symm)) hs (setsM_sorted n (by omega))
      subst hY
      have hl : k = (setsM n).length := by rw [hp.length_eq]; simp
      have HI := Lib.hid hI
      have HL := Lib.hid hl
      have HB2 : Hid (Below w.heap.size w w2) := HB.out.trans (hK.below HB.out.size (fun j h => h))
      clear hI hl hp hs hK HB
      go_wp2_with fail
      go_ret
      exact ⟨⟨A', cap, by rw [← HL.out]; rfl, by rw [← HL.out]; exact HI.out⟩, HB2.out⟩
end Go.Proofs.YtpdldmichpmgmaaGreat
