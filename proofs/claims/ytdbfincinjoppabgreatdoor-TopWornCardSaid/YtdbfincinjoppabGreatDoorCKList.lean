/- A part of the proof that TopWorn always answers true. -/
import Derived.Shelf.SlSortCmp.NoneTotal
import Derived.Test.YtdbfincinjoppabGreatDoorCCastHall2
import Derived.Test.YtdbfincinjoppabGreatDoorCIter3
import Derived.Test.YtdbfincinjoppabGreatDoorCMaps2
set_option linter.all false
namespace Go.Proofs.YtdbfincinjoppabGreatDoor
open Go.RowKit Go.Shelf Go.Sort
def Grw (w w' : World) : Prop := w.drawn ≤ w'.drawn ∧ Below w.heap.size w w'
theorem Grw.refl (w : World) : Grw w w := ⟨Nat.le_refl _, Below.refl _ _⟩
theorem Grw.trans {a b c : World} (h : Grw a b) (k : Grw b c) : Grw a c := ⟨Nat.le_trans h.1 k.1, bl_call h.2 k.2 (Nat.le_refl _)⟩
theorem Grw.form {w w' : World} (h : Grw w w') : ∃ q os, w' = Sort.grow (w.drewN q) os := by
 obtain ⟨h1, h2⟩ := h
 refine ⟨w'.drawn - w.drawn, w'.heap.extract w.heap.size w'.heap.size, ?_⟩
 have hh : w'.heap = w.heap ++ w'.heap.extract w.heap.size w'.heap.size := by
  apply Array.ext_getElem?
  intro k
  by_cases hk : k < w.heap.size
  ·rw [Array.getElem?_append_left hk]; exact h2.block k hk
  rw [Array.getElem?_append_right (by omega)]
  by_cases hk2 : k < w'.heap.size
  ·rw [Array.getElem?_extract]
   rw [if_pos (by omega)]
   congr 1; omega
  rw [Array.getElem?_eq_none (by omega), Array.getElem?_eq_none (by simp; omega)]
 have hd : w'.drawn = w.drawn + (w'.drawn - w.drawn) := by omega
 obtain ⟨os1, os2, os3⟩ := (⟨h2.os, h2.tape, h2.output⟩ : w'.os = w.os ∧ w'.tape = w.tape ∧ w'.output = w.output)
 cases w' with
 | mk heap' tape' drawn' os' output' =>
  simp only at os1 os2 os3 hh hd
  subst os1 os2 os3
  unfold Sort.grow World.drewN
  dsimp only
  rw [← hh, ← hd]
theorem append_drawn {P : Program} (w : World) (base : Nat) (t ty e : TypeId) (i : TypeInfo) (z : Value) (size bytes : Nat) (ht : P.underlying t = some (.slice e)) (hi : P.info? e = some i) (hz : i.zero = some z)
  (hsize : i.size = size) (hby : i.bytes = bytes) (hzs : z.cells.size = size) (hsz : 0 < size)
  (v : Value) (n : Nat) (xs : List Value) (hown : w.ownsRow base e size v n xs)
  (a : Addr) (c : Nat) (news : List Value) (hl : news.length = size) (hnews : ∀ j u, news[j]? = some u → w.cell? (a.add j) = some u) (h1 : ∀ u ∈ news, u.oneCell' = true)
  (h63 : n + 1 ≤ maxLen) (hbytes : (n + 1) * bytes ≤ 140737488355328) {v' : Value} {w' : World}
  (hr : (Builtin.append_ #[t, t] ty #[v, .slice (some a) 1 c]).run P w = .ok v' w') : w.drawn ≤ w'.drawn := by
 subst hsize
 subst hby
 have hsmall : ((n + 1 : Nat) : Int) ≤ 9223372036854775807 := by simp only [maxLen] at h63; omega
 rcases hown.2 with ⟨rfl, hn0⟩ | ⟨g, cap, cur, rfl, hb, hgg, hle, hmax, hsz2, htake⟩
 ·rw [run_append_nil (P := P) (w := w) t ty e i z ht hi hz a 1 c news (by omega) hnews (by omega) (by omega) (by have := hbytes; rw [hn0] at this; omega)] at hr
  injection hr with _ hr
  rw [← hr]
  exact Nat.le_succ _
 by_cases hc : n + 1 ≤ cap
 ·rw [run_append_room (P := P) w t ty e i ht hi g n cap cur hgg a 1 c news (by omega) hnews h1 hc (by rw [hl, hsz2]; calc n * i.size + i.size = (n + 1) * i.size := by rw [Nat.succ_mul]
                                                               _ ≤ cap * i.size := Nat.mul_le_mul_right _ hc)] at hr
  injection hr with _ hr
  rw [← hr]
  exact Nat.le_refl _
 have hcn : cap = n := by omega
 rw [run_append_grow (P := P) (w := w) t ty e i z ht hi hz ⟨g, 0, none⟩ n cap xs hown.1 (hown.cells rfl) a 1 c news (by omega) hnews (by omega) hsmall (growslice_fits (by omega) hbytes)] at hr
 injection hr with _ hr
 rw [← hr]
 exact Nat.le_succ _
theorem wpList_append_g {P : Program} {ops : Array Oper} {rest : List Oper} {o : Oper} {a : Act} {Q : Exit → Act → World → Prop} (w : World) (hgd : o.guard = none) (s x : Operand) (t : TypeId)
  (ho : o.op = .call { callee := .builtin .append, args := #[s, x], argTypes := #[t, t] })
  {α : Type} {R : Rd α} {m : Nat} (g : R.Good m) {S : Foot} (base : Nat) (e : TypeId) (i : TypeInfo) (z : Value) (bytes : Nat) (ht : P.underlying t = some (.slice e)) (hi : P.info? e = some i) (hz : i.zero = some z)
  (hsize : i.size = m) (hby : i.bytes = bytes) (hzs : z.cells.size = m) (hsz : 0 < m)
  (v : Value) (xs : List α) (y : α) (n : Nat) (hn : xs.length = n) (hs : a.eval s = v) (hown : OwnL R m S w base e v xs)
  (ad : Addr) (c : Nat) (news : List Value) (hx : a.eval x = .slice (some ad) 1 c) (hR : R S w y news) (hnews : ∀ j u, news[j]? = some u → w.cell? (ad.add j) = some u)
  (h63 : n + 1 ≤ maxLen) (hbytes : (n + 1) * bytes ≤ 140737488355328) (hbase : base ≤ w.heap.size) (hS : ¬ S w.heap.size)
  (h : ∀ A' cap' w', OwnL R m S w' base e (.slice (some ⟨A', 0, none⟩) (n + 1) cap') (xs ++ [y]) → w.grownBy w' v.ownBlock → (v.ownBlock = some A' ∨ A' = w.heap.size) → w.drawn ≤ w'.drawn → wpList P ops Q rest (a.put o.dst (.slice (some ⟨A', 0, none⟩) (n + 1) cap')) w') : wpList P ops Q (o :: rest) a w := by
 subst hn
 obtain ⟨hS0, cells, hrow, hcells⟩ := hown
 refine wpList_plain hgd fun K hK => ?_
 obtain ⟨v', w', hr, hown', hgrow, _, hat⟩ := run_append_own_at (P := P) w base t o.type e i z m bytes ht hi hz hsize hby hzs hsz v xs.length cells hrow ad 1 c news (by rw [g.len hR]; omega) hnews (g.one hR) h63 hbytes hbase
 have hdr := append_drawn (P := P) w base t o.type e i z m bytes ht hi hz hsize hby hzs hsz v xs.length cells hrow ad c news (g.len hR) hnews (g.one hR) h63 hbytes hr
 unfold Oper.wp execOp
 simp only [ho, resolve, invoke, builtin, Sem.run_bind, Sem.run_pure, Result.andThen_ok, List.map_toArray, List.map_cons, List.map_nil, hs, hx, hr]
 refine hK _ _ ?_
 obtain ⟨gb, cap, rfl⟩ := ownsRow_succ hown'
 have hat' : v.ownBlock = some gb ∨ gb = w.heap.size := by
  rcases hat with e | e
  ·left; rw [← e]; rfl
  right; injection e
 have hk : Keeps S w w' := Keeps.grown hgrow hS0
 refine h gb cap w' ⟨fun k hk' => ?_, cells ++ news, by simpa using hown', fun k y' hy => ?_⟩ hgrow hat' hdr
 ·have : gb = k := by simpa [Value.ownBlock] using hk'
  subst this
  rcases hat' with e | e
  ·exact hS0 _ e
  rw [e]; exact hS
 by_cases hlt : k < xs.length
 ·rw [List.getElem?_append_left hlt] at hy
  obtain ⟨vs, hR', hc⟩ := hcells k y' hy
  refine ⟨vs, g.keep hR' hk, fun j u hu => ?_⟩
  have h3 := hc j u hu
  rw [List.getElem?_append_left (of_getq' h3)]; exact h3
 have hk2 : k = xs.length := by have := of_getq' hy; simp at this; omega
 subst hk2
 simp at hy; subst hy
 refine ⟨news, g.keep hR hk, fun j u hu => ?_⟩
 rw [List.getElem?_append_right (by rw [hrow.1]; omega), hrow.1]
 rw [show xs.length * m + j - xs.length * m = j by omega]; exact hu
set_option maxRecDepth 100000 in
set_option maxHeartbeats 1000000 in
theorem klist_any (s : Nat) (w : World) (hs : s < 256) : Calls Tryz.prog 53 #[.int .i64 s] w fun e w' => (∃ A' c', e = .returned (.slice A' (bitL s).length c') ∧ Ints (fun k => w.heap.size ≤ k) w' A' (bitL s).length (bitL s)) ∧ Grw w w' := by
 obtain ⟨i0, hi0, hz0, hz1, hz2⟩ := info_parts infoInt
 obtain ⟨hl8, hlb⟩ := len_bit s hs
 have hlen : Calls Tryz.prog 73 #[.int .u64 s] w fun e w' => e = .returned (.int .i64 (Lib.bitLen s)) ∧ w = w' := Calls.mono (Any.bits_Len Tryz.bitsLen s w (by omega) (by omega)) fun _ _ ⟨he, hw⟩ => ⟨he, hw.symm⟩
 obtain ⟨bl, hbl⟩ : ∃ bl, Lib.bitLen s = bl := ⟨_, rfl⟩
 rw [hbl] at hl8 hlb hlen
 have HLB := Lib.hid hlb
 have HLEN := Lib.hid hlen
 have hb8 := bitL_len s hs
 clear hbl hlen hlb
 go_enter Tryz.func53, Tryz.ntmps53
 go_wp2_with fail
 refine Calls.mono (f := 73) HLEN.out ?_
 rintro e w' ⟨rfl, rfl⟩
 go_wp2_with fail
 go_loopw [2, 3, 7] (fun v _ i' wr => ∃ (k j cap : Nat) (A' : Option Addr) (l1 : List Int), i' = .int .i64 k ∧ k ≤ bl ∧ v = .slice A' j cap ∧ Hid (l1.length = j) ∧ j ≤ k ∧ OwnL IntR 1 (fun _ => False) wr w.heap.size 3 (.slice A' j cap) l1 ∧ Grw w wr ∧ Hid (l1 = bitU s k)) (fun _ _ i' _ => bl - (intOf i').toNat)
 case atStart => exact ⟨0, 0, 0, none, [], rfl, Nat.zero_le _, rfl, rfl, Nat.le_refl _, OwnL.nil _ _ _ _ _ _, Grw.refl _, rfl⟩
 case round =>
  obtain ⟨k, j, cap, A', l1, rfl, hk, rfl, Hj, hjk, hO, hB, Hu⟩ := hrel
  by_cases hlt : k < bl
  ·have hki : (k : Int) < bl := by omega
   have hbt := bit_test s hs k (by omega)
   cases htb : s.testBit k
   ·rw [htb] at hbt
    have HU2 : Hid (l1 = bitU s (k + 1)) := by rw [Hid, bitU_succ, htb, Hu.out]; simp
    clear htb
    go_wp2_with fail
    go_roundw
    case rel => exact ⟨k + 1, j, cap, A', l1, by go_num, by omega, rfl, Hj.out, by omega, hO, hB, HU2⟩
    case measure => simp [intOf]; omega
   rw [htb] at hbt
   have HU2 : Hid (l1 ++ [(k : Int)] = bitU s (k + 1)) := by rw [Hid, bitU_succ, htb, Hu.out]; simp
   clear htb
   go_wp2_with (at_builtin; refine wpList_append_g _ rfl (.tmp 15) (.tmp 17) _ rfl IntR.good w.heap.size 3 i0 _ 8 Tryz.underlying45 hi0 hz0 hz1 hz2 rfl (by omega) _ l1 (k : Int) j Hj.out rfl (hO.alloc IntR.good _) ⟨_, 0, none⟩ 1 [.int .i64 k] rfl rfl (news_new rfl rfl) ?c1 ?c2 ?c3 (fun h => h) ?_)
   case c1 => simp only [maxLen]; omega
   case c2 => omega
   case c3 => have := hB.2.size; simp; omega
   intro A2 cap2 w2 hO2 hg2 _ hd2
   have hB2 : Grw w w2 := ⟨Nat.le_trans hB.1 hd2, bl_grown (bl_alloc hB.2 _ (Nat.le_refl _)) (hO.alloc IntR.good _) hg2 (Nat.le_refl _) (Nat.le_refl _)⟩
   have Hj2 : Hid ((l1 ++ [(k : Int)]).length = j + 1) := by rw [Hid, List.length_append, Hj.out]; rfl
   clear hg2 hd2 hO hB hbt
   go_wp2_with fail
   go_roundw
   case rel => exact ⟨k + 1, j + 1, cap2, _, l1 ++ [(k : Int)], by go_num, by omega, rfl, Hj2, by omega, hO2, hB2, HU2⟩
   case measure => simp [intOf]; omega
  obtain rfl : k = bl := by omega
  have hl : l1 = bitL s := by rw [Hu.out]; exact HLB.out
  have hj : j = (bitL s).length := by rw [← Hj.out, hl]
  have hS := hO.slice (T := fun k => w.heap.size ≤ k) IntR.good rfl (by simp only [maxLen]; omega) (fun _ h => h.elim) (fun _ h _ => h)
  rw [hl, hj] at hS
  have HS := Lib.hid hS
  have HJ := Lib.hid hj
  have HB := Lib.hid hB
  clear hl hj hS hO hB
  go_wp2
  go_ret
  exact ⟨⟨A', cap, by rw [← HJ.out]; rfl, HS.out⟩, HB.out⟩
def unionL (all : List (List Pl)) (pieces : List Int) : List Pl := pieces.foldl (fun some i => (all.getD i.toNat []).foldl (fun some a => if a ∈ some then some else some ++ [a]) some) ([] : List Pl)
theorem lackB_def (all : List (List Pl)) (pieces : List Int) : lackB all pieces = decide ((unionL all pieces).length < pieces.length) := rfl
theorem add_spec (l : List Pl) : ∀ s : List Pl, s.Nodup → (l.foldl (fun some a => if a ∈ some then some else some ++ [a]) s).Nodup ∧ ∀ a, a ∈ l.foldl (fun some a => if a ∈ some then some else some ++ [a]) s ↔ a ∈ s ∨ a ∈ l := by
 induction l with
 | nil => intro s hs; exact ⟨hs, fun a => by simp⟩
 | cons b l ih =>
  intro s hs
  rw [List.foldl_cons]
  by_cases hb : b ∈ s
  ·rw [if_pos hb]
   obtain ⟨h1, h2⟩ := ih s hs
   refine ⟨h1, fun a => ?_⟩
   rw [h2, List.mem_cons]
   constructor
   ·rintro (h | h)
    ·exact .inl h
    exact .inr (.inr h)
   rintro (h | h | h)
   ·exact .inl h
   ·exact .inl (by rw [h]; exact hb)
   exact .inr h
  rw [if_neg hb]
  have hn : (s ++ [b]).Nodup := by
   rw [List.nodup_append]
   refine ⟨hs, by simp, fun x hx y hy e => ?_⟩
   rw [List.mem_singleton] at hy
   rw [e, hy] at hx
   exact hb hx
  obtain ⟨h1, h2⟩ := ih _ hn
  refine ⟨h1, fun a => ?_⟩
  rw [h2, List.mem_append, List.mem_singleton, List.mem_cons, or_assoc]
theorem union_spec (all : List (List Pl)) (pieces : List Int) : (unionL all pieces).Nodup ∧ ∀ a, a ∈ unionL all pieces ↔ ∃ i ∈ pieces, a ∈ all.getD i.toNat [] := by
 have key : ∀ (p : List Int) (s : List Pl), s.Nodup → (p.foldl (fun some i => (all.getD i.toNat []).foldl (fun some a => if a ∈ some then some else some ++ [a]) some) s).Nodup ∧ ∀ a, a ∈ p.foldl (fun some i => (all.getD i.toNat []).foldl (fun some a => if a ∈ some then some else some ++ [a]) some) s ↔ a ∈ s ∨ ∃ i ∈ p, a ∈ all.getD i.toNat [] := by
  intro p
  induction p with
  | nil => intro s hs; exact ⟨hs, fun a => by simp⟩
  | cons i p ih =>
   intro s hs
   rw [List.foldl_cons]
   obtain ⟨g1, g2⟩ := add_spec (all.getD i.toNat []) s hs
   obtain ⟨h1, h2⟩ := ih _ g1
   refine ⟨h1, fun a => ?_⟩
   rw [h2, g2, or_assoc]
   constructor
   ·rintro (h | h | ⟨j, hj, h⟩)
    ·exact .inl h
    ·exact .inr ⟨i, List.mem_cons_self, h⟩
    exact .inr ⟨j, List.mem_cons_of_mem _ hj, h⟩
   rintro (h | ⟨j, hj, h⟩)
   ·exact .inl h
   rcases List.mem_cons.1 hj with e | hj
   ·exact .inr (.inl (by rw [← e]; exact h))
   exact .inr (.inr ⟨j, hj, h⟩)
 obtain ⟨h1, h2⟩ := key pieces [] List.nodup_nil
 exact ⟨h1, fun a => by rw [unionL, h2]; simp⟩
theorem nodup_cast {S : List Nat} (h : S.Nodup) : (S.map fun j : Nat => (j : Int)).Nodup := by
 unfold List.Nodup
 rw [List.pairwise_map]
 exact h.imp fun hne e => hne (by omega)
def IsSet (n : Nat) (set : List Int) : Prop := set.Pairwise (· < ·) ∧ ∀ i ∈ set, 0 ≤ i ∧ i < n
theorem lex_set {n k : Nat} {set : List Int} (h : set ∈ lexL k (numbersL n)) : IsSet n set ∧ set.length = k := by
 obtain ⟨h1, h2⟩ := lex_sub _ _ _ h
 refine ⟨⟨?_, fun i hi => ?_⟩, h2⟩
 ·have : (numbersL n).Pairwise (· < ·) := by
   unfold numbersL
   rw [List.pairwise_map]
   exact List.pairwise_lt_range.imp fun h => by omega
  exact this.sublist h1
 have h3 := h1.subset hi
 unfold numbersL at h3
 obtain ⟨j, hj, rfl⟩ := List.mem_map.1 h3
 have := List.mem_range.1 hj
 omega
theorem set_nodup {n : Nat} {set : List Int} (h : IsSet n set) : set.Nodup := h.1.imp fun h e => by omega
theorem countC_set {n : Nat} {set : List Int} (h : IsSet n set) : countK (fun i => hasN set i) n = set.length := by
 unfold countK
 have h1 : ((List.range n).filter fun i => hasN set i).length ≤ set.length := by
  have := nodup_le (((List.range n).filter fun i => hasN set i).map (fun i : Nat => (i : Int))) set (nodup_cast (List.nodup_range.filter _)) (fun a ha => by
   obtain ⟨i, hi, rfl⟩ := List.mem_map.1 ha
   have := (List.mem_filter.1 hi).2
   simpa [hasN] using this)
  rwa [List.length_map] at this
 have h2 : set.length ≤ ((List.range n).filter fun i => hasN set i).length := by
  have := nodup_le set (((List.range n).filter fun i => hasN set i).map (fun i : Nat => (i : Int))) (set_nodup h) (fun a ha => by
   obtain ⟨a1, a2⟩ := h.2 a ha
   refine List.mem_map.2 ⟨a.toNat, List.mem_filter.2 ⟨List.mem_range.2 (by omega), ?_⟩, by omega⟩
   unfold hasN
   rw [Int.toNat_of_nonneg a1]
   simpa using ha)
  rwa [List.length_map] at this
 omega
theorem lack_of {all : List (List Pl)} {set : List Int} (h : IsSet all.length set) (hl : lackB all set = true) : LackP all (fun _ => true) (fun i => hasN set i) [] all.length := by
 obtain ⟨u1, u2⟩ := union_spec all set
 rw [lackB_def] at hl
 refine ⟨set.map Int.toNat, unionL all set, ?_, fun j hj => ?_, fun j hj c hc _ _ => ?_, by rw [List.length_map]; simpa using hl⟩
 ·have key : ∀ E : List Int, E.Nodup → (∀ i ∈ E, 0 ≤ i) → (E.map Int.toNat).Nodup := by
   intro E
   induction E with
   | nil => intro _ _; exact List.nodup_nil
   | cons a E ih =>
    intro hn h0
    obtain ⟨n1, n2⟩ := List.nodup_cons.1 hn
    rw [List.map_cons, List.nodup_cons]
    refine ⟨fun hm => ?_, ih n2 fun b hb => h0 b (List.mem_cons_of_mem _ hb)⟩
    obtain ⟨b, hb, e⟩ := List.mem_map.1 hm
    have e1 := h0 a List.mem_cons_self
    have e2 := h0 b (List.mem_cons_of_mem _ hb)
    have : b = a := by omega
    rw [this] at hb
    exact n1 hb
  exact key set (set_nodup h) fun i hi => (h.2 i hi).1
 ·obtain ⟨i, hi, e⟩ := List.mem_map.1 hj
  obtain ⟨i1, i2⟩ := h.2 i hi
  refine ⟨by omega, ?_⟩
  show decide (((j : Nat) : Int) ∈ set) = true
  rw [show ((j : Nat) : Int) = i by omega]
  simpa using hi
 obtain ⟨i, hi, e⟩ := List.mem_map.1 hj
 exact (u2 c).2 ⟨i, hi, by rw [e]; exact hc⟩
theorem lack_to {all : List (List Pl)} {set : List Int} (h : IsSet all.length set) (hl : LackP all (fun _ => true) (fun i => hasN set i) [] all.length) : ∃ T : List Int, T.Sublist set ∧ lackB all T = true := by
 obtain ⟨S, D, s1, s2, s3, s4⟩ := hl
 refine ⟨set.filter fun i => decide (i.toNat ∈ S), List.filter_sublist, ?_⟩
 obtain ⟨u1, u2⟩ := union_spec all (set.filter fun i => decide (i.toNat ∈ S))
 have h1 := nodup_le (unionL all (set.filter fun i => decide (i.toNat ∈ S))) D u1 (fun a ha => by
  obtain ⟨i, hi, ha⟩ := (u2 a).1 ha
  have hiS : i.toNat ∈ S := by simpa using (List.mem_filter.1 hi).2
  exact s3 _ hiS a ha rfl (fun hh => by cases hh))
 have h2 := nodup_le (S.map fun j : Nat => (j : Int)) (set.filter fun i => decide (i.toNat ∈ S)) (nodup_cast s1) (fun a ha => by
  obtain ⟨j, hj, rfl⟩ := List.mem_map.1 ha
  have := (s2 j hj).2
  refine List.mem_filter.2 ⟨by simpa [hasN] using this, by simpa using hj⟩)
 rw [List.length_map] at h2
 rw [lackB_def]
 simp only [decide_eq_true_eq]
 omega
theorem lex_of_sub {x of : List Int} (h : x.Sublist of) : x ∈ lexL x.length of := by
 induction h with
 | slnil => simp [lexL]
 | @cons x of a h ih =>
  cases x with
  | nil => simp [lexL]
  | cons y x => rw [List.length_cons, lexL]; exact List.mem_append_right _ ih
 | @cons_cons x of a h ih =>
  rw [List.length_cons, lexL]
  exact List.mem_append_left _ (List.mem_map_of_mem ih)
theorem sets_mem {n : Nat} {x : List Int} : x ∈ setsL n ↔ x.Sublist (numbersL n) := by
 unfold setsL
 rw [List.mem_flatMap]
 constructor
 ·rintro ⟨k, _, hx⟩
  exact (lex_sub _ _ _ hx).1
 intro h
 refine ⟨x.length, List.mem_range.2 ?_, lex_of_sub h⟩
 have := h.length_le
 unfold numbersL at this
 rw [List.length_map, List.length_range] at this
 omega
theorem sets_set {n : Nat} {x : List Int} (h : x ∈ setsL n) : IsSet n x := (lex_set (lex_of_sub (sets_mem.1 h))).1
theorem sets_order (n : Nat) : (setsL n).Pairwise fun a b => a.length ≤ b.length := by
 unfold setsL
 rw [List.pairwise_flatMap]
 refine ⟨fun k _ => ?_, ?_⟩
 ·have key : ∀ E : List (List Int), (∀ a ∈ E, a.length = k) → E.Pairwise fun a b => a.length ≤ b.length := by
   intro E
   induction E with
   | nil => intro _; exact List.Pairwise.nil
   | cons x E ih =>
    intro h
    refine List.Pairwise.cons (fun y hy => ?_) (ih fun a ha => h a (List.mem_cons_of_mem _ ha))
    rw [h x List.mem_cons_self, h y (List.mem_cons_of_mem _ hy)]
    exact Nat.le_refl _
  exact key _ fun a ha => (lex_sub _ _ _ ha).2
 refine List.pairwise_lt_range.imp fun hlt => ?_
 intro a ha b hb
 rw [(lex_sub _ _ _ ha).2, (lex_sub _ _ _ hb).2]
 omega
theorem sets_first (n : Nat) : setsL n = [] :: (List.range n).flatMap fun k => lexL (k + 1) (numbersL n) := by
 unfold setsL
 rw [List.range_succ_eq_map, List.flatMap_cons, List.flatMap_map]
 have : lexL 0 (numbersL n) = [[]] := by cases numbersL n <;> rfl
 rw [this]
 rfl
theorem lacks_find {all : List (List Pl)} {univ : List Pl} {L : Nat} (hu : ∀ j, (all.getD j []).length ≤ L ∧ ∀ a ∈ all.getD j [], a ∈ univ) (hF : L + univ.length * (L + 1) ≤ seekF) :
  (setsL all.length).find? (fun set => decide (giveR all (fun _ => true) (fun i => hasN set i) [] < set.length)) = fewestL all := by
 have h1 : ∀ x ∈ setsL all.length, (giveR all (fun _ => true) (fun i => hasN x i) [] < x.length ↔ LackP all (fun _ => true) (fun i => hasN x i) [] all.length) := fun x hx => by
  have hs := sets_set hx
  have hc := countC_set hs
  have hle := give_le all (fun _ => true) (fun i => hasN x i) [] all.length
  have hi := give_iff (ok := fun _ => true) (is := fun i => hasN x i) (fixed := []) hu hF
  have hle2 : giveR all (fun _ => true) (fun i => hasN x i) [] ≤ x.length := by rw [← hc]; exact hle
  rw [hc] at hi
  constructor
  ·intro h2
   exact Classical.byContradiction fun h3 => by have := hi.2 h3; omega
  intro h2
  have : ¬ giveR all (fun _ => true) (fun i => hasN x i) [] = x.length := fun e => hi.1 e h2
  omega
 have h2 : ∀ x ∈ setsL all.length, lackB all x = true → giveR all (fun _ => true) (fun i => hasN x i) [] < x.length := fun x hx hl => (h1 x hx).2 (lack_of (sets_set hx) hl)
 have hall : (setsL all.length).find? (lackB all) = fewestL all := by
  rw [sets_first, List.find?_cons]
  have : lackB all [] = false := by rw [lackB_def]; rfl
  rw [this]
  rfl
 rw [← hall]
 cases hf : (setsL all.length).find? (fun set => decide (giveR all (fun _ => true) (fun i => hasN set i) [] < set.length)) with
 | none =>
  symm
  rw [List.find?_eq_none] at hf ⊢
  intro x hx hl
  exact hf x hx (by simpa using h2 x hx hl)
 | some X =>
  rw [List.find?_eq_some_iff_append] at hf
  obtain ⟨p1, ls, bs, p2, p3⟩ := hf
  have hX : X ∈ setsL all.length := by rw [p2]; simp
  have hlt : giveR all (fun _ => true) (fun i => hasN X i) [] < X.length := by simpa using p1
  symm
  rw [List.find?_eq_some_iff_append]
  refine ⟨?_, ls, bs, p2, fun a ha => ?_⟩
  ·obtain ⟨T, t1, t2⟩ := lack_to (sets_set hX) ((h1 X hX).1 hlt)
   have hT : T ∈ setsL all.length := sets_mem.2 (t1.trans (sets_mem.1 hX))
   rcases Nat.lt_or_eq_of_le t1.length_le with h4 | h4
   ·exfalso
    have hord := sets_order all.length
    rw [p2] at hord hT
    rcases List.mem_append.1 hT with h5 | h5
    ·have := p3 T h5
     have h6 := h2 T (by rw [p2]; exact List.mem_append_left _ h5) t2
     simp at this
     omega
    rcases List.mem_cons.1 h5 with h5 | h5
    ·rw [h5] at h4; omega
    have := (List.pairwise_cons.1 (List.pairwise_append.1 hord).2.1).1 T h5
    omega
   rw [t1.eq_of_length h4] at t2
   exact t2
  have := p3 a ha
  cases hl : lackB all a with
  | false => rfl
  | true =>
   have h6 := h2 a (by rw [p2]; exact List.mem_append_left _ ha) hl
   simp at this
   omega
end Go.Proofs.YtdbfincinjoppabGreatDoor
