/- LineDrops: what is dropped is gone, ready or held; a number may come again. -/
import Derived.Test.YtechpnlbkkfplaaAwake17
import Derived.Test.YtechpnlbkkfplaaLineW
import Derived.Test.YtechpnlbkkfplaaPrLaw17Linedrops
import Derived.Test.YtechpnlbkkfplaaBitsP
import Derived.Test.YtechpnlbkkfplaaLiftArg
set_option linter.unusedVariables false
set_option linter.unusedSimpArgs false
namespace Go.Proofs.Ytechpnlbkkfplaa.Pr
open Go Go.Lift Go.Proofs

theorem ecell2 : ∀ x : Int × Bool, (ecell x).length = 2 := fun _ => rfl
abbrev ldG : Nat → Int := fun j => (j : Int) + 1
theorem ldMono (n : Nat) : Mono n ldG := fun i j h _ => by show (i : Int) + 1 < j + 1; omega
abbrev ldA : Nat → Bool := fun j => Int.tmod ((j : Int) + 1) 3 == 0
abbrev ldW (n t : Nat) : LRow := rw' n ldG fun j => (ldA j, decide (j < t))

section
variable {K : KT} {L : List Asr} {l : Addr} {n : Nat}

theorem wrap_u64 {n : Nat} (h : n < 18446744073709551616) : IntKind.u64.wrap (n : Int) = n := by rw [IntKind.wrap_u64]; omega
theorem ld_j7 {a : Nat} {o : SV} {h : Heap} (ha : a ≤ 1000) (ho : o.2.1 = a + 1) (hK : K (.bool true) h) : waybilllaw17_LineDrops.j7 K a o.1 o.2.1 o.2.2 h := by
  unfold waybilllaw17_LineDrops.j7
  simp only [bd]
  rw [show IntKind.i64.wrap ((a : Int) + 1) = ((a + 1 : Nat) : Int) by rw [wrapI (by omega) (by omega)]; omega, ho]
  simpa using hK

theorem ld_look {k : Int} {a : Nat} {o : SV} {r : List (Int × Bool)} (hr : r.length = a + 1) (ha : a ≤ 1000) (hup : r.Pairwise fun x y => x.1 < y.1) (hk : ∀ x ∈ r, x.1 = k → x.2 = true) (hK : ∀ h', St L h' → K (.bool true) h') :
    ∀ (fuel i : Nat) (h : Heap), r.length - i < fuel → i ≤ r.length → St (Ow 2 o (r.flatMap ecell) :: L) h → waybilllaw17_LineDrops.L8 K fuel k a o.1 o.2.1 o.2.2 i h
  | 0, _, _, hf, _, _ => absurd hf (Nat.not_lt_zero _)
  | fuel + 1, i, h, hf, hi, S => by
    have ho : o.2.1 = a + 1 := by have := S.ow.1; rw [ecells_len] at this; omega
    unfold waybilllaw17_LineDrops.L8
    by_cases hlt : i < r.length
    · have j9 : waybilllaw17_LineDrops.j9 K (waybilllaw17_LineDrops.L8 K fuel) k a o.1 o.2.1 o.2.2 i false h := by
        unfold waybilllaw17_LineDrops.j9
        refine ifF rfl ?_
        simp only [bd]
        rw [show IntKind.i64.wrap ((i : Int) + 1) = ((i + 1 : Nat) : Int) by rw [wrapI (by omega) (by omega)]; omega]
        exact ld_look hr ha hup hk hK fuel (i + 1) h (by omega) (by omega) S
      have hx : r[i]? = some r[i] := List.getElem?_eq_getElem hlt
      refine ifT (by simp; omega) ?_
      obtain ⟨p, ep, p0, p1, pc⟩ := ixF ecell2 (by decide) S.sl (i := (i : Int)) rfl hx
      have rest : ((decide ((i : Int) > 0)) = true → ∃ p25, o.1 = some p25 ∧ (0 : Int) ≤ (IntKind.i64.wrap ((i : Int) - 1)) ∧ (IntKind.i64.wrap ((i : Int) - 1)) < ((o.2.1 : Nat) : Int) ∧ ∃ p26, o.1 = some p26 ∧ (0 : Int) ≤ (i : Int) ∧ (i : Int) < ((o.2.1 : Nat) : Int) ∧ ∃ n27, hcell h (Addr.add (Addr.add p25 (Int.toNat (IntKind.i64.wrap ((i : Int) - 1)) * 2)) 0) = some (.int .u64 n27) ∧ ∃ n28, hcell h (Addr.add (Addr.add p26 (Int.toNat (i : Int) * 2)) 0) = some (.int .u64 n28) ∧ waybilllaw17_LineDrops.j9 K (waybilllaw17_LineDrops.L8 K fuel) k a o.1 o.2.1 o.2.2 i (decide (n27 ≥ n28)) h) ∧ ((decide ((i : Int) > 0)) = false → waybilllaw17_LineDrops.j9 K (waybilllaw17_LineDrops.L8 K fuel) k a o.1 o.2.1 o.2.2 i false h) := by
        by_cases h0 : 0 < i
        · refine ifT (by simp; omega) ?_
          rw [show IntKind.i64.wrap ((i : Int) - 1) = ((i - 1 : Nat) : Int) by rw [wrapI (by omega) (by omega)]; omega]
          obtain ⟨q, eq, q0, q1, qc⟩ := ixF ecell2 (by decide) S.sl (i := ((i - 1 : Nat) : Int)) rfl (List.getElem?_eq_getElem (show i - 1 < r.length by omega))
          refine ⟨q, eq, q0, q1, p, ep, p0, p1, _, qc 0 _ rfl, _, pc 0 _ rfl, ?_⟩
          have := List.pairwise_iff_getElem.1 hup (i - 1) i (by omega) hlt (by omega)
          rw [show decide (r[i - 1].1 ≥ r[i].1) = false by simp; omega]
          exact j9
        · exact ifF (by simp; omega) j9
      refine ⟨p, ep, p0, p1, _, pc 0 _ rfl, ?_⟩
      by_cases e : r[i].1 = k
      · refine ifT (by simp [e]) (ixS ecell2 (by decide) S.sl rfl hx ?_)
        have hk2 := hk _ (List.getElem_mem hlt) e
        refine entNeqS (a := r[i]) (b := (k, true)) _ _ ⟨_, rfl, ?_⟩
        exact ifF' (decide_eq_false (by rw [show r[i] = (r[i].1, r[i].2) from rfl, e, hk2]; simp)) rest
      · exact ifF (by simp [e]) rest
    · exact ifF (by simp; omega) (ld_j7 ha ho (hK h S.tl))

theorem ld_end {k : Int} {W : LRow} {a b : Nat} {h : Heap} (hk : 0 < k ∧ k < 18446744073709551616) (hW : W.length ≤ 900) (hn : get? W k = none) (ha : (readyL W).length = a) (hb : (heldL W).length = b) (hu : Up W) (hK : ∀ h', St L h' → K (.bool true) h') (S : St (LnW l W :: L) h) :
    waybilllaw17_LineDrops.j5 K (some l) k a b h := by
  have hal : a ≤ W.length := by rw [← ha, List.length_map]; exact List.length_filter_le _ _
  unfold waybilllaw17_LineDrops.j5
  refine readyLineW S (by omega) fun h1 o1 S1 => ⟨_, _, _, rfl, ?_⟩
  have e1 : o1.2.1 = a := by have := S1.ow.1; rw [ecells_len, ha] at this; omega
  refine ifF' (by simp [e1]) (heldLineW S1.tl (by omega) fun h2 o2 S2 => ⟨_, _, _, rfl, ?_⟩)
  have e2 : o2.2.1 = b := by have := S2.ow.1; rw [List.length_map, hb] at this; omega
  refine ifF' (by simp [e2]) (putLineW S2.tl ⟨by omega, hk.2⟩ (fun e => absurd e (by rw [hn]; simp; omega)) fun _ _ h3 S3 => ⟨_, rfl, ?_⟩)
  unfold waybilllaw17_LineDrops.j6
  have hl3 : (ins W k (true, false)).length ≤ 901 := by rw [ins_len]; omega
  refine ifF rfl (readyLineW S3 (by omega) fun h4 o S4 => ⟨_, _, _, rfl, (readyL (ins W k (true, false))).length + 1, ?_⟩)
  have ui := hu.ins (v := (true, false)) (get?_none.1 hn)
  refine ld_look (L := LnW l (ins W k (true, false)) :: L) (r := readyL (ins W k (true, false))) ?_ (by omega) ?_ (fun x hx e => ?_) (fun h' S' => hK h' S'.tl) _ 0 h4 (by omega) (by omega) S4
  · rw [List.length_map] at ha ⊢
    rw [ins_filter_len, ha]; rfl
  · rw [List.pairwise_map]
    exact ui.sublist List.filter_sublist
  · obtain ⟨y, hy, rfl⟩ := List.mem_map.1 hx
    have hy2 := (List.mem_filter.1 hy).1
    simp only at e
    subst e
    have := (get?_iff ui.nodup).2 (show (y.1, y.2) ∈ _ from hy2)
    rw [hu.get?_ins (get?_none.1 hn), if_pos rfl] at this
    have := Option.some.inj this
    rw [← this]

theorem ld_j3 {t : Nat} {w : Int} {h : Heap} (h0 : 0 < n) (hn : n ≤ 32) (ht : t ≤ n) (hK : ∀ h', St L h' → K (.bool true) h') (S : St (LnW l (ldW n t) :: L) h) : waybilllaw17_LineDrops.j3 K n t w (some l) h := by
  unfold waybilllaw17_LineDrops.j3
  refine ⟨by omega, ?_⟩
  have hb : 0 ≤ bitsI .and .i64 w 255 := by rw [m255]; omega
  have h1 := Int.tmod_lt_of_pos (bitsI .and .i64 w 255) (show (0 : Int) < n by omega)
  have h2 := Int.tmod_nonneg (n : Int) hb
  generalize hx : Int.tmod (bitsI .and .i64 w 255) n = x at *
  obtain ⟨j, rfl⟩ := Int.eq_ofNat_of_zero_le h2
  have hj : j < n := by omega
  rw [show IntKind.u64.wrap (IntKind.i64.wrap ((j : Int) + 1)) = ldG j by rw [wrapI (by omega) (by omega), show (j : Int) + 1 = ((j + 1 : Nat) : Int) by omega, wrap_u64 (by omega)]; rfl]
  have hg : get? (ldW n t) (ldG j) = some (ldA j, decide (j < t)) := (ldMono n).get _ hj
  have u := (ldMono n).up fun j => (ldA j, decide (j < t))
  simp only [bd]
  rw [show IntKind.i64.wrap (ldG j) = ((j + 1 : Nat) : Int) by show IntKind.i64.wrap ((j : Int) + 1) = _; rw [wrapI (by omega) (by omega)]; omega]
  have hk : 0 < ldG j ∧ ldG j < 18446744073709551616 := by show 0 < (j : Int) + 1 ∧ (j : Int) + 1 < _; omega
  refine putLineW S ⟨by omega, hk.2⟩ (fun _ h3 S3 => ⟨_, rfl, ?_⟩) fun e => by rw [hg] at e; cases e
  refine ifF' rfl (dropLineW S3 fun h4 S4 => ⟨_, rfl, ?_⟩)
  have hd : get? (del (ldW n t) (ldG j)) (ldG j) = none := by rw [get?_del _ _ _ u.nodup, if_pos rfl]
  refine ifF' (by rw [hg]; rfl) (dropLineW S4 fun h5 S5 => ⟨_, rfl, ?_⟩)
  have hd2 : del (del (ldW n t) (ldG j)) (ldG j) = del (ldW n t) (ldG j) := del_none (get?_none.1 hd)
  rw [hd2] at S5
  have ud := u.del (k := ldG j)
  refine ifF' (by rw [hd]; rfl) (backLineW S5 (fun _ h6 S6 => ⟨_, rfl, ?_⟩) fun a ha => by rw [← get?_iff ud.nodup, hd] at ha; cases ha)
  unfold waybilllaw17_LineDrops.j4
  refine ifF rfl ?_
  have c1 : ((ldW n t).filter fun x => x.2.2).length = t := row_filter_lt ht _ _ _ fun j _ => rfl
  have c2 := filter_len (fun x : Int × (Bool × Bool) => x.2.2) (ldW n t)
  rw [c1, rw_len] at c2
  have d1 := del_filter_len (fun x : Int × (Bool × Bool) => x.2.2) hg
  have d2 := del_filter_len (fun x : Int × (Bool × Bool) => !x.2.2) hg
  have hlen : (del (ldW n t) (ldG j)).length ≤ 900 := by have := (del_sub (ldW n t) (ldG j)).length_le; rw [rw_len] at this; omega
  rw [wrapI (n := (n : Int) - t) (by omega) (by omega)]
  by_cases hh : j < t
  · refine ifT (by simp; omega) ?_
    rw [wrapI (n := (t : Int) - 1) (by omega) (by omega), show (n : Int) - t = ((n - t : Nat) : Int) by omega, show (t : Int) - 1 = ((t - 1 : Nat) : Int) by omega]
    exact ld_end hk hlen hd (by rw [List.length_map]; simp [hh] at d2; omega) (by rw [List.length_map]; simp [hh] at d1; omega) ud hK S6
  · refine ifF (by simp; omega) ?_
    rw [wrapI (n := (n : Int) - t - 1) (by omega) (by omega), show (n : Int) - t - 1 = ((n - t - 1 : Nat) : Int) by omega]
    exact ld_end hk hlen hd (by rw [List.length_map]; simp [hh] at d2; omega) (by rw [List.length_map]; simp [hh] at d1; omega) ud hK S6

theorem ld_take {t : Nat} {w : Int} (h0 : 0 < n) (hn : n ≤ 32) (ht : t ≤ n) (hK : ∀ h', St L h' → K (.bool true) h') : ∀ (fuel i : Nat) (h : Heap), t - i < fuel → i ≤ t → St (LnW l (ldW n i) :: L) h → waybilllaw17_LineDrops.L10 K fuel n t w (some l) i h
  | 0, _, _, hf, _, _ => absurd hf (Nat.not_lt_zero _)
  | fuel + 1, i, h, hf, hi, S => by
    unfold waybilllaw17_LineDrops.L10
    by_cases hlt : i < t
    · refine ifT (by simp; omega) (takeLineW S (fun hall => ?_) fun k a hmem hle h1 S1 => ?_)
      · have := hall _ (rw_mem.2 ⟨i, by omega, rfl⟩)
        simp at this
      · obtain ⟨j, hj, e⟩ := rw_mem.1 hmem
        simp only [Prod.mk.injEq] at e
        obtain ⟨e1, e2, e3⟩ := e
        have e3 := of_decide_eq_false e3.symm
        have hji : j = i := by
          rcases Nat.lt_or_ge i j with hgt | hge
          · have h3 := hle _ (rw_mem.2 ⟨i, by omega, rfl⟩) (by rw [e1]; exact ldMono n i j hgt hj)
            simp at h3
          · omega
        subst hji
        subst e1
        subst e2
        rw [(ldMono n).upd _ hj] at S1
        refine ⟨[.int .u64 (ldG j), .bool (ldA j)], true, rfl, ?_⟩
        simp only [bd]
        rw [show IntKind.i64.wrap ((j : Int) + 1) = ((j + 1 : Nat) : Int) by rw [wrapI (by omega) (by omega)]; omega]
        refine ld_take h0 hn ht hK fuel (j + 1) h1 (by omega) (by omega) ?_
        rw [show ldW n (j + 1) = rw' n ldG (fun i => if i = j then (ldA j, true) else (ldA i, decide (i < j))) from rw_congr fun i hi => by
          by_cases e : i = j
          · subst e; simp
          · have : i < j + 1 ↔ i < j := by omega
            simp [this, e]]
        exact S1
    · have : i = t := by omega
      subst this
      exact ifF (by simp) (ld_j3 h0 hn ht hK S)

theorem ld_put {t w : Int} (h0 : 0 < n) (hn : n ≤ 32) (hK : ∀ h', St L h' → K (.bool true) h') : ∀ (fuel j : Nat) (h : Heap), n - j < fuel → j ≤ n → St (LnW l (ldW j 0) :: L) h → waybilllaw17_LineDrops.L11 K fuel n t w (some l) ((j + 1 : Nat) : Int) h
  | 0, _, _, hf, _, _ => absurd hf (Nat.not_lt_zero _)
  | fuel + 1, j, h, hf, hj, S => by
    unfold waybilllaw17_LineDrops.L11
    by_cases hlt : j < n
    · refine ifT (by simp; omega) ⟨by decide, ?_⟩
      rw [wrap_u64 (by omega)]
      have hnone : get? (ldW j 0) (ldG j) = none := get?_none.2 fun hm => by
        obtain ⟨x, hx, e⟩ := List.mem_map.1 hm
        obtain ⟨i, hi, rfl⟩ := rw_mem.1 hx
        have e : (i : Int) + 1 = j + 1 := e
        omega
      have eg : ((j + 1 : Nat) : Int) = ldG j := by show ((j + 1 : Nat) : Int) = (j : Int) + 1; omega
      rw [eg]
      refine putLineW S (by show 0 ≤ (j : Int) + 1 ∧ _; omega) (fun e => by
        rw [hnone] at e
        rcases e with e | e
        · cases e
        · have e : (j : Int) + 1 = 0 := e
          omega) fun _ _ h1 S1 => ⟨_, rfl, ifF rfl ?_⟩
      simp only [bd]
      rw [show IntKind.i64.wrap (ldG j + 1) = ((j + 1 + 1 : Nat) : Int) by show IntKind.i64.wrap ((j : Int) + 1 + 1) = _; rw [wrapI (by omega) (by omega)]; omega]
      refine ld_put h0 hn hK fuel (j + 1) h1 (by omega) (by omega) ?_
      have := (ldMono (j + 1)).ins_end (fun j => (ldA j, decide (j < 0)))
      simp only [Nat.not_lt_zero, decide_false] at this S1
      unfold ldW
      simp only [Nat.not_lt_zero, decide_false]
      rw [← this]
      exact S1
    · have : j = n := by omega
      subst this
      refine ifF (by simp; omega) ?_
      unfold waybilllaw17_LineDrops.j2
      simp only [bd]
      have hb : 0 ≤ bitsI .and .i64 t 31 := by rw [m31]; omega
      generalize bitsI .and .i64 t 31 = x at *
      obtain ⟨x, rfl⟩ := Int.eq_ofNat_of_zero_le hb
      rw [show (if (j : Int) < (x : Int) then (j : Int) else x) = ((min j x : Nat) : Int) by split <;> omega]
      exact ⟨min j x + 1, ld_take h0 hn (Nat.min_le_left ..) hK _ 0 h (by omega) (by omega) S⟩

theorem LineDrops.law {h : Heap} (a : Int) (ha : -9223372036854775808 ≤ a ∧ a < 9223372036854775808) (b : Int) (hb : -9223372036854775808 ≤ b ∧ b < 9223372036854775808) (c : Int) (hc : -9223372036854775808 ≤ c ∧ c < 9223372036854775808) :
    CallsH P F.waybilllaw17_LineDrops [.int .i64 a, .int .i64 b, .int .i64 c] (fun v h' => v = .bool true ∧ Kept h h') h := by
  refine waybilllaw17_LineDrops.ok ?_
  unfold waybilllaw17_LineDrops.p0
  refine newLineW (St.old h) fun h1 l S1 => ⟨_, rfl, ifF' rfl (awake17S S1 fun h2 S2 => ⟨_, rfl, ?_⟩)⟩
  unfold waybilllaw17_LineDrops.j1
  refine ifF rfl ?_
  simp only [bd]
  rw [m31]
  obtain ⟨x, hx⟩ := Int.eq_ofNat_of_zero_le (show 0 ≤ a % 32 by omega)
  rw [hx, show IntKind.i64.wrap ((x : Int) + 1) = ((x + 1 : Nat) : Int) by rw [wrapI (by omega) (by omega)]; omega]
  exact ⟨x + 2, ld_put (n := x + 1) (by omega) (by omega) (fun h' S' => ⟨rfl, S'.keptOld (List.mem_cons_self ..)⟩) _ 0 h2 (by omega) (by omega) S2⟩
end
end Go.Proofs.Ytechpnlbkkfplaa.Pr
