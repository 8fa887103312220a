/- Walks, layer 7, the reference: Lack. -/
import Derived.Test.YtpdldmichpmgmaaGreatCCastHalls
import Derived.Test.YtpdldmichpmgmaaGreatCKOut1
import Derived.Test.YtpdldmichpmgmaaGreatCKSeeks
set_option linter.unusedVariables false
set_option linter.unusedSimpArgs false
set_option linter.all false
namespace Go.Proofs.YtpdldmichpmgmaaGreat
open Go.RowKit Go.Shelf

/-- the casts of a list behind those that are there, each once -/
def addL7 (s : List Pl) (l : List Pl) : List Pl := l.foldl (fun some a => if a ∈ some then some else some ++ [a]) s
theorem addL7_snoc {s l : List Pl} {k : Nat} {a : Pl} (h : l[k]? = some a) : addL7 s (l.take (k + 1)) = if a ∈ addL7 s (l.take k) then addL7 s (l.take k) else addL7 s (l.take k) ++ [a] := by
  unfold addL7
  rw [take_snoc_get h, List.foldl_append]
  rfl
theorem addL7_len (s : List Pl) : ∀ l : List Pl, (addL7 s l).length ≤ s.length + l.length := by
  intro l
  induction l generalizing s with
  | nil => exact Nat.le_refl _
  | cons a l ih =>
    have h := ih (if a ∈ s then s else s ++ [a])
    have e : addL7 s (a :: l) = addL7 (if a ∈ s then s else s ++ [a]) l := rfl
    rw [e, List.length_cons]
    by_cases ha : a ∈ s
    · rw [if_pos ha] at h ⊢; omega
    · rw [if_neg ha] at h ⊢; rw [List.length_append, List.length_singleton] at h; omega
theorem unionL_snoc {all : List (List Pl)} {ps : List Int} {r : Nat} {x : Int} (h : ps[r]? = some x) : unionL all (ps.take (r + 1)) = addL7 (unionL all (ps.take r)) (all.getD x.toNat []) := by
  unfold unionL
  rw [take_snoc_get h, List.foldl_append]
  rfl
theorem unionL_len {all : List (List Pl)} {ps : List Int} (hl : ∀ l ∈ all, l.length ≤ 40) : ∀ r, (unionL all (ps.take r)).length ≤ r * 40
  | 0 => by simp [unionL]
  | r + 1 => by
    by_cases h : r < ps.length
    · rw [unionL_snoc (List.getElem?_eq_getElem h)]
      have h1 := unionL_len (ps := ps) hl r
      have h2 := addL7_len (unionL all (ps.take r)) (all.getD (ps[r]).toNat [])
      have h3 : (all.getD (ps[r]).toNat []).length ≤ 40 := by
        rw [List.getD_eq_getElem?_getD]
        cases hx : all[(ps[r]).toNat]? with
        | none => simp
        | some x => exact hl x (List.mem_of_getElem? hx)
      omega
    · have e : ps.take (r + 1) = ps.take r := by rw [List.take_of_length_le (by omega), List.take_of_length_le (by omega)]
      rw [e]
      have := unionL_len (ps := ps) hl r
      omega

set_option maxHeartbeats 8000000 in
set_option maxRecDepth 100000 in
theorem rlack7_any {S T : Foot} {A B : Option Addr} {n c m d : Nat} {all : List (List Pl)} {ps : List Int} (w : World) (h : Ords S w A n all) (g : Ints T w B m ps) (hb : ∀ i ∈ ps, 0 ≤ i ∧ i < n) (hm : m ≤ 8) (hl : ∀ l ∈ all, l.length ≤ 40) :
    Calls Tryz.prog 29 #[.slice A n c, .slice B m d] w fun e w' => e = .returned (.bool (lackB all ps)) ∧ Below w.heap.size w w' := by
  obtain ⟨i0, hi0, hz0, hz1, hz2⟩ := info_parts infoPl7
  have Hm := Lib.hid g.len
  have Hn := Lib.hid h.len
  have hnl := h.le
  have HA : Hid (∀ V, Below w.heap.size w V → Ords S V A n all) := fun V hb => h.keep OrdR.good (Keeps.below hb)
  have HP : Hid (∀ V, Below w.heap.size w V → Ints T V B m ps) := fun V hb => g.keep IntR.good (Keeps.below hb)
  have HB := Lib.hid hb
  have HL := Lib.hid hl
  have HUL : Hid (∀ r, (unionL all (ps.take r)).length ≤ r * 40) := fun r => unionL_len hl r
  clear h g hb hl
  go_enter Tryz.func29, Tryz.ntmps29
  go_wp2_with fail
  go_loopw [5, 6] (fun o i wr => ∃ (r len cap : Nat) (An : Option Addr), r ≤ m ∧ i = .int .i64 r ∧ o = .slice An len cap ∧ Hid (Below w.heap.size w wr) ∧ Hid (OwnL PlR 2 (fun _ => False) wr w.heap.size 54 (.slice An len cap) (unionL all (ps.take r))) ∧ Hid ((unionL all (ps.take r)).length = len)) (fun _ i _ => m - (intOf i).toNat)
  case atStart => exact ⟨0, 0, 0, none, Nat.zero_le _, rfl, rfl, Below.refl _ _, by simp only [List.take_zero]; exact OwnL.nil _ _ _ _ _ _, rfl⟩
  case round =>
    obtain ⟨r, len, cap, An, hr, rfl, rfl, HBr, HO, Hlen⟩ := hrel
    by_cases hlt : r < m
    · have hri : (r : Int) < m := by omega
      obtain ⟨bb, ob, x, rfl, hxc, Hx⟩ := Ints.get (HP.out wr HBr.out) hlt
      have hx := HB.out x (List.mem_of_getElem? Hx.out)
      obtain ⟨xi, rfl⟩ : ∃ xi : Nat, x = xi := ⟨x.toNat, by omega⟩
      have hxn : xi < n := by omega
      have hxin : (xi : Int) < n := by omega
      obtain ⟨bA, oA, A1, n1, c1, L, rfl, _, hLc0, hL, HxL⟩ := Ords.get (HA.out w (Below.refl _ _)) hxn
      have hLc := getc HBr.out hLc0
      have HL1 : Hid (L.length = n1) := hL.len
      have hn40 : n1 ≤ 40 := by rw [← HL1.out]; exact HL.out L (List.mem_of_getElem? HxL.out)
      have HU : Hid (unionL all (ps.take (r + 1)) = addL7 (unionL all (ps.take r)) L) := by
        rw [Hid, unionL_snoc Hx.out, Int.toNat_natCast, getD_of HxL.out]
      obtain ⟨U, hU⟩ : ∃ U, unionL all (ps.take r) = U := ⟨_, rfl⟩
      have hlen : len ≤ 280 := by have := HUL.out r; rw [Hlen.out] at this; omega
      rw [hU] at HO Hlen HU
      obtain ⟨W1, hW1⟩ : ∃ V, V = wr := ⟨_, rfl⟩
      subst hW1
      have HLs : Hid (∀ V, Below w.heap.size w V → Pls S V A1 n1 L) := fun V hb => hL.keep PlR.good (Keeps.below hb)
      clear hU hL hLc0
      go_wp2_with fail
      clear hxc hLc
      go_loopw [5, 8] (fun o i wr => ∃ (k len cap : Nat) (An : Option Addr), k ≤ n1 ∧ i = .int .i64 k ∧ o = .slice An len cap ∧ Hid (Below w.heap.size w wr) ∧ Hid (OwnL PlR 2 (fun _ => False) wr w.heap.size 54 (.slice An len cap) (addL7 U (L.take k))) ∧ Hid ((addL7 U (L.take k)).length = len) ∧ len ≤ 280 + k) (fun _ i _ => n1 - (intOf i).toNat)
      case atStart => exact ⟨0, len, cap, An, Nat.zero_le _, rfl, rfl, HBr.out, HO.out, Hlen.out, by omega⟩
      case round =>
        clear HBr HO Hlen
        obtain ⟨k, len, cap, An, hk, rfl, rfl, HBk, HO, Hlen, hlen2⟩ := hrel
        by_cases hlt2 : k < n1
        · have hki : (k : Int) < n1 := by omega
          obtain ⟨b2, o2, ya, yb, rfl, hb2, d0, d1, Hy⟩ := Pls.get (HLs.out wr HBk.out) hlt2
          have HSN := Lib.hid (addL7_snoc (s := U) Hy.out)
          obtain ⟨K, hK⟩ : ∃ K, addL7 U (L.take k) = K := ⟨_, rfl⟩
          rw [hK] at HO Hlen HSN
          clear hK
          have hPl : Pls (fun _ => True) wr An len K := HO.out.slice PlR.good rfl (by simp only [maxLen]; omega) (fun _ _ => trivial) (fun _ _ _ => trivial)
          go_wp2_with fail
          refine (has7_any (ya, yb) wr hPl).mono ?_
          rintro e V1 ⟨rfl, c1⟩
          have HB1 : Hid (Below w.heap.size w V1) := bl_call HBk.out c1 (Nat.le_refl _)
          have HO1 : Hid (OwnL PlR 2 (fun _ => False) V1 w.heap.size 54 (.slice An len cap) K) := HO.out.below PlR.good c1
          have e0 := getc c1 d0
          have e1 := getc c1 d1
          clear hPl c1 d0 d1 HO HBk
          by_cases hin : (ya, yb) ∈ K
          · have HS2 : Hid (addL7 U (L.take (k + 1)) = K) := by rw [Hid, HSN.out, if_pos hin]
            rw [decide_eq_true hin]
            go_wp2_with fail
            go_roundw
            case rel => exact ⟨k + 1, len, cap, An, by omega, by go_num, rfl, HB1.out, by rw [HS2.out]; exact HO1.out, by rw [HS2.out]; exact Hlen.out, by omega⟩
            case measure => simp [intOf]; omega
          · have HS2 : Hid (addL7 U (L.take (k + 1)) = K ++ [(ya, yb)]) := by rw [Hid, HSN.out, if_neg hin]
            rw [decide_eq_false hin]
            go_wp2_with (at_builtin; refine wpList_append_n _ rfl (.tmp 35) (.tmp 40) _ rfl PlR.good w.heap.size 54 i0 _ 16 Tryz.underlying29 hi0 hz0 hz1 hz2 rfl (by omega) _ K (ya, yb) len Hlen.out rfl (HO1.out.alloc PlR.good _) ⟨V1.heap.size, 0, none⟩ 1 [.int .i64 ya, .int .i64 yb] rfl rfl (news_new rfl (by simp)) ?c1 ?c2 ?c3 (fun h => h) ?_)
            case c1 => simp only [maxLen]; omega
            case c2 => omega
            case c3 => have := HB1.out.size; simp; omega
            intro A' cap' w2 hown2 hg2 hat2
            have hB2 : Below w.heap.size w w2 := bl_grown (bl_alloc HB1.out _ (Nat.le_refl _)) (HO1.out.alloc PlR.good _) hg2 (Nat.le_refl _) (Nat.le_refl _)
            have HOW := Lib.hid hown2
            clear hg2 hat2 hown2 e0 e1
            go_wp2
            go_roundw
            case rel => exact ⟨k + 1, len + 1, cap', _, by omega, by go_num, rfl, hB2, by rw [HS2.out]; exact HOW.out, by rw [Hid, HS2.out, List.length_append, Hlen.out]; rfl, by omega⟩
            case measure => simp [intOf]; omega
        · obtain rfl : k = n1 := by omega
          have hki : ¬ (k : Int) < k := by omega
          have HFU : Hid (addL7 U (L.take k) = unionL all (ps.take (r + 1))) := by rw [Hid, HU.out, List.take_of_length_le (by rw [HL1.out]; exact Nat.le_refl _)]
          rw [HFU.out] at HO Hlen
          go_wp2_with fail
          go_roundw
          case rel => exact ⟨r + 1, len, cap, An, by omega, by go_num, rfl, HBk.out, HO.out, Hlen.out⟩
          case measure => simp [intOf]; omega
    · obtain rfl : r = m := by omega
      have hri : ¬ (r : Int) < r := by omega
      have hfull : ps.take r = ps := List.take_of_length_le (by rw [Hm.out]; exact Nat.le_refl _)
      rw [hfull] at Hlen
      clear HO
      go_wp2_with fail
      go_ret
      refine ⟨ret_bool ?_, HBr.out⟩
      rw [lackB_def, Hlen.out, Hm.out]
      first | done | simp
end Go.Proofs.YtpdldmichpmgmaaGreat
