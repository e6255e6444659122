/- ConsTurns: where all may, each of a queue's consumers takes once, before one takes twice; others are not touched. -/
import Derived.Test.YtechpnlbkkfplaaConsQ
import Derived.Test.YtechpnlbkkfplaaPrLaw19Consturns
import Derived.Test.YtechpnlbkkfplaaLiftArg
set_option linter.unusedVariables false
set_option linter.unusedSimpArgs false
namespace Go.Proofs.Ytechpnlbkkfplaa.Pr
open Go Go.Lift Go.Proofs

theorem yes_1 : TellsN (fun _ : Unit => emp) (fun _ _ => ()) (fun _ => true) (.func (.func F.waybilllaw19_ConsTurns_1) #[] #[]) := fun x st N h K S hK => by
  refine callV_fn (waybilllaw19_ConsTurns_1.ok ?_)
  unfold waybilllaw19_ConsTurns_1.p0
  unfold bd
  exact hK _ (S.al (cc x) T.api_Con).tl
theorem no_2 : TellsN (fun _ : Unit => emp) (fun _ _ => ()) (fun _ => false) (.func (.func F.waybilllaw19_ConsTurns_2) #[] #[]) := fun x st N h K S hK => by
  refine callV_fn (waybilllaw19_ConsTurns_2.ok ?_)
  unfold waybilllaw19_ConsTurns_2.p0
  unfold bd
  exact hK _ (S.al (cc x) T.api_Con).tl

abbrev ctC (n : Nat) (j : Nat) : CN := ((j : Int), 0, [116], if j < n then [113] else [114], false)
/-- Behind i turns. -/
def ctQ (n i : Nat) : List CN := rowF n fun j => ctC n ((i + j) % n)
abbrev ctR (n m : Nat) : List CN := rowF m fun j => ctC n (n + j)
/-- The row: those of q and those of r, in some order. -/
structure CT (n m i : Nat) (C : List CN) : Prop where
  q : ofC C [113] = ctQ n i
  r : ofC C [114] = ctR n m
  len : C.length = n + m

theorem ctQ_step {n i : Nat} (hn : 0 < n) : ctQ n i = ctC n (i % n) :: (ctQ n i).tail ∧ (ctQ n i).tail ++ [ctC n (i % n)] = ctQ n (i + 1) := by
  have e : ∃ k, n = k + 1 := ⟨n - 1, by omega⟩
  obtain ⟨k, rfl⟩ := e
  have h1 : ctQ (k + 1) i = ctC (k + 1) (i % (k + 1)) :: rowF k fun j => ctC (k + 1) ((i + (j + 1)) % (k + 1)) := by
    unfold ctQ rowF
    rw [List.range_succ_eq_map, List.map_cons, List.map_map]
    rfl
  refine ⟨by rw [h1]; rfl, ?_⟩
  rw [h1]
  show (rowF k fun j => ctC (k + 1) ((i + (j + 1)) % (k + 1))) ++ _ = ctQ (k + 1) (i + 1)
  unfold ctQ
  rw [rowF_succ]
  congr 1
  · exact rowF_congr fun j _ => by rw [show i + (j + 1) = i + 1 + j by omega]
  · rw [show i + 1 + k = i + (k + 1) by omega, Nat.add_mod_right]
theorem ctC_key {n a b : Nat} (e : keyC (ctC n a) = keyC (ctC n b)) : a = b := by
  have := congrArg Prod.fst e
  simp only [keyC, ctC] at this
  omega

section
variable {K : KT} {L : List Asr} {h : Heap} {s : Addr} {n m T0 : Nat}

theorem ct_end {C : List CN} {last : Int} {t : Nat} {o : SV} (hn : 0 < n ∧ n ≤ 8) (hm : m ≤ 7) (ht : t ≤ 63) (hK : ∀ h', St L h' → K (.bool true) h') (g : CT n m t C) (hl : 0 ≤ last ∧ last < 4611686018427387904) (ho : o.2.1 = m) (S : St (CnW s C last :: L) h) :
    waybilllaw19_ConsTurns.j4 K n m t (some s) o.1 o.2.1 o.2.2 h := by
  have hlen : C.length < 1099511627776 := by rw [g.len]; omega
  unfold waybilllaw19_ConsTurns.j4
  refine turnConW (st := ()) no_2 (q := [113]) S.emp' hlen hl (fun _ h1 S1 => ⟨zc, false, rfl, ?_⟩) fun i x _ hd => by cases hd
  unfold bd
  have S2 : St (Bx (top h1) zc :: CnW s C last :: L) (al h1 zc.toArray T.api_Con) := S1.tl.al zc T.api_Con
  refine ⟨rfl, S2.wrA (ws := zc) rfl (by simp [one]) fun h2 S3 => ?_⟩
  refine ifT (by rw [ho]; simp) (ifT rfl (ofConW (q := [113]) S3.tl hlen (by omega) fun h4 a S4 => ⟨_, _, _, rfl, ?_⟩))
  rw [g.q] at S4
  have la : a.2.1 = n := by have := S4.ow.1; rw [cc_len] at this; unfold ctQ at this; rw [rowF_len] at this; omega
  refine ifT (by rw [la]; simp) ⟨by omega, ofConW (q := [113]) S4.tl hlen (by omega) fun h5 b S5 => ⟨_, _, _, rfl, ?_⟩⟩
  rw [g.q] at S5
  have hx : (ctQ n t)[0]? = some (ctC n ((t + 0) % n)) := rowF_get _ hn.1
  obtain ⟨p, ep, p0, p1, pc⟩ := ixF cc5 (by decide) S5.sl (i := (0 : Int)) (n := 0) rfl hx
  refine ⟨p, ep, p0, p1, _, pc 0 _ rfl, ?_⟩
  rw [show ((((t + 0) % n : Nat) : Int) == Int.tmod (t : Int) (n : Int)) = true by rw [Nat.add_zero, ← Int.ofNat_tmod]; simp]
  exact hK h5 S5.tl.tl

theorem ct_look {C : List CN} {last : Int} {t : Nat} {o : SV} (hn : 0 < n ∧ n ≤ 8) (hm : m ≤ 7) (ht : t ≤ 63) (hK : ∀ h', St L h' → K (.bool true) h') (g : CT n m t C) (hl : 0 ≤ last ∧ last < 4611686018427387904) (S : St (Ow 5 o ((ctR n m).flatMap cc) :: CnW s C last :: L) h) :
    ∀ (fuel i : Nat), m - i < fuel → i ≤ m → waybilllaw19_ConsTurns.L5 K fuel n m t (some s) o.1 o.2.1 o.2.2 i h
  | 0, _, hf, _ => absurd hf (Nat.not_lt_zero _)
  | fuel + 1, i, hf, hi => by
    have ho : o.2.1 = m := by have := S.ow.1; rw [cc_len, rowF_len] at this; omega
    unfold waybilllaw19_ConsTurns.L5
    by_cases hlt : i < m
    · have hx : (ctR n m)[i]? = some (ctC n (n + i)) := rowF_get _ hlt
      obtain ⟨p, ep, p0, p1, pc⟩ := ixF cc5 (by decide) S.sl (i := (i : Int)) (n := i) rfl hx
      refine ifT (by simp; omega) ⟨p, ep, p0, p1, _, pc 0 _ rfl, ?_⟩
      refine ifF (by rw [show IntKind.i64.wrap ((n : Int) + i) = ((n + i : Nat) : Int) from wrapS (by omega) (by omega)]; exact bne_self_eq_false _) ?_
      unfold bd
      rw [show IntKind.i64.wrap ((i : Int) + 1) = ((i + 1 : Nat) : Int) from wrapS (by omega) (by omega)]
      exact ct_look hn hm ht hK g hl S fuel (i + 1) (by omega) (by omega)
    · exact ifF (by simp; omega) (ct_end hn hm ht hK g hl ho S.tl)

theorem ct_turn {t : Nat} (hn : 0 < n ∧ n ≤ 8) (hm : m ≤ 7) (ht : t ≤ 63) (hK : ∀ h', St L h' → K (.bool true) h') :
    ∀ (fuel i : Nat) (C : List CN) (last : Int) (h : Heap), t - i < fuel → i ≤ t → CT n m i C → 0 ≤ last ∧ last ≤ 100 + i → St (CnW s C last :: L) h → waybilllaw19_ConsTurns.L6 K fuel n m t (some s) i h
  | 0, _, _, _, _, hf, _, _, _, _ => absurd hf (Nat.not_lt_zero _)
  | fuel + 1, i, C, last, h, hf, hi, g, hl, S => by
    have hlen : C.length < 1099511627776 := by rw [g.len]; omega
    unfold waybilllaw19_ConsTurns.L6
    by_cases hlt : i < t
    · obtain ⟨e1, e2⟩ := ctQ_step (n := n) (i := i) hn.1
      have nd := CnW.nd S
      refine ifT (by simp; omega) (turnConW (st := ()) yes_1 (q := [113]) S.emp' hlen (by omega) (fun hno => ?_) fun k x hx hd hno h1 S1 => ?_)
      · have := hno (ctC n (i % n)) (by rw [g.q, e1]; exact List.mem_cons_self ..)
        cases this
      · have hk : k = 0 := by
          cases k with
          | zero => rfl
          | succ k =>
            have := hno (ctC n (i % n)) (by rw [g.q, e1]; simp)
            cases this
        subst hk
        have hxe : x = ctC n (i % n) := by
          rw [g.q, e1] at hx
          exact (Option.some.inj hx).symm
        subst hxe
        refine ⟨cc (ctC n (i % n)), true, rfl, ?_⟩
        unfold bd
        have S2 : St (Bx (top h1) zc :: CnW s (outC C (keyC (ctC n (i % n))) ++ [ctC n (i % n)]) (last + 1) :: L) (al h1 zc.toArray T.api_Con) := S1.tl.al zc T.api_Con
        refine ⟨rfl, S2.wrA (ws := cc (ctC n (i % n))) rfl (cc_one _) fun h2 S3 => ifF' rfl ⟨by omega, _, S3.c 0 rfl, ?_⟩⟩
        unfold waybilllaw19_ConsTurns.j7
        refine ifF (by rw [← Int.ofNat_tmod]; exact bne_self_eq_false _) ?_
        unfold bd
        rw [show IntKind.i64.wrap ((i : Int) + 1) = ((i + 1 : Nat) : Int) from wrapS (by omega) (by omega)]
        have hmem : ctC n (i % n) ∈ C := by
          have : ctC n (i % n) ∈ ofC C [113] := by rw [g.q, e1]; exact List.mem_cons_self ..
          exact (List.mem_filter.1 this).1
        refine ct_turn hn hm ht hK fuel (i + 1) _ (last + 1) h2 (by omega) (by omega) ⟨?_, ?_, ?_⟩ (by omega) S3.tl
        · unfold ofC
          rw [List.filter_append, ← e2]
          congr 1
          · unfold outC
            rw [List.filter_filter, show (C.filter fun a => quC a == [113] && decide (keyC a ≠ keyC (ctC n (i % n)))) = (ofC C [113]).filter fun a => decide (keyC a ≠ keyC (ctC n (i % n))) by
              unfold ofC; rw [List.filter_filter]; exact List.filter_congr fun x _ => Bool.and_comm _ _]
            rw [g.q]
            have nd2 : ((ctQ n i).map keyC).Nodup := by rw [← g.q]; exact (List.filter_sublist.map _).nodup nd
            conv => lhs; rw [e1]
            rw [e1, List.map_cons, List.nodup_cons] at nd2
            rw [List.filter_cons_of_neg (by simp)]
            exact List.filter_eq_self.2 fun y hy => decide_eq_true fun e => nd2.1 (List.mem_map.2 ⟨y, hy, e⟩)
          · have : i % n < n := Nat.mod_lt _ hn.1
            simp [quC, ctC, this]
        · unfold ofC
          rw [List.filter_append]
          have : i % n < n := Nat.mod_lt _ hn.1
          rw [show ([ctC n (i % n)].filter fun c => quC c == [114]) = [] by simp [quC, ctC, this], List.append_nil]
          unfold outC
          rw [List.filter_filter, ← g.r]
          refine List.filter_congr fun x hx => ?_
          by_cases e : keyC x = keyC (ctC n (i % n))
          · have hxx : x = ctC n (i % n) := by
              rw [List.nodup_iff_pairwise_ne, List.pairwise_map] at nd
              obtain ⟨a, ha, rfl⟩ := List.mem_iff_getElem.1 hx
              obtain ⟨b, hb, eb⟩ := List.mem_iff_getElem.1 hmem
              rw [← eb] at e ⊢
              rcases Nat.lt_trichotomy a b with h | h | h
              · exact absurd e (List.pairwise_iff_getElem.1 nd a b ha hb h)
              · subst h; rfl
              · exact absurd e.symm (List.pairwise_iff_getElem.1 nd b a hb ha h)
            subst hxx
            simp [quC, ctC, this]
          · simp [e]
        · have := g.len
          rw [List.length_append, List.length_singleton]
          have h5 : (outC C (keyC (ctC n (i % n)))).length + 1 = C.length := by
            have h6 := filter_len (fun c : CN => decide (keyC c ≠ keyC (ctC n (i % n)))) C
            have h7 : (C.filter fun c => !decide (keyC c ≠ keyC (ctC n (i % n)))).length = 1 := by
              have h8 : (C.filter fun c => !decide (keyC c ≠ keyC (ctC n (i % n)))) = [ctC n (i % n)] := by
                have nd3 : ((C.filter fun c => !decide (keyC c ≠ keyC (ctC n (i % n)))).map keyC).Nodup := (List.filter_sublist.map _).nodup nd
                have hm2 : ctC n (i % n) ∈ C.filter fun c => !decide (keyC c ≠ keyC (ctC n (i % n))) := List.mem_filter.2 ⟨hmem, by simp⟩
                have hall : ∀ y ∈ C.filter fun c => !decide (keyC c ≠ keyC (ctC n (i % n))), keyC y = keyC (ctC n (i % n)) := fun y hy => by simpa using (List.mem_filter.1 hy).2
                generalize (C.filter fun c => !decide (keyC c ≠ keyC (ctC n (i % n)))) = Z at nd3 hm2 hall
                cases Z with
                | nil => cases hm2
                | cons z r =>
                  cases r with
                  | nil => simp at hm2; rw [hm2]
                  | cons y r =>
                    rw [List.map_cons, List.nodup_cons] at nd3
                    exact absurd (List.mem_map.2 ⟨y, by simp, (hall y (by simp)).trans (hall z (by simp)).symm⟩) nd3.1
              rw [h8]; rfl
            unfold outC
            omega
          omega
    · have : i = t := by omega
      subst this
      refine ifF (by simp) ?_
      unfold waybilllaw19_ConsTurns.j3
      refine ofConW (q := [114]) S hlen (by omega) fun h1 o S1 => ⟨_, _, _, rfl, m + 1, ?_⟩
      rw [g.r] at S1
      exact ct_look hn hm (by omega) hK g (by omega) S1 _ 0 (by omega) (by omega)

theorem ct_add {t : Nat} (hn : 0 < n ∧ n ≤ 8) (hm : m ≤ 7) (ht : t ≤ 63) (hK : ∀ h', St L h' → K (.bool true) h') :
    ∀ (fuel i : Nat) (h : Heap), n + m - i < fuel → i ≤ n + m → St (CnW s (rowF i (ctC n)) i :: L) h → waybilllaw19_ConsTurns.L8 K fuel n m t (some s) i h
  | 0, _, _, hf, _, _ => absurd hf (Nat.not_lt_zero _)
  | fuel + 1, i, h, hf, hi, S => by
    unfold waybilllaw19_ConsTurns.L8
    rw [show IntKind.i64.wrap ((n : Int) + m) = ((n + m : Nat) : Int) from wrapS (by omega) (by omega)]
    by_cases hlt : i < n + m
    · have hnew : keyC (ctC n i) ∉ (rowF i (ctC n)).map keyC := fun hmem => by
        obtain ⟨x, hx, e⟩ := List.mem_map.1 hmem
        unfold rowF at hx
        obtain ⟨j, hj, rfl⟩ := List.mem_map.1 hx
        have := ctC_key e
        have := List.mem_range.1 hj
        omega
      have j9 : ∀ q, q = (if i < n then [113] else [114]) → waybilllaw19_ConsTurns.j9 K (waybilllaw19_ConsTurns.L8 K fuel) n m t (some s) i q h := fun q eq => by
        subst eq
        unfold waybilllaw19_ConsTurns.j9
        refine addConW (c := ctC n i) S (by omega) (fun hm => absurd hm hnew) fun _ h1 S1 => ⟨true, rfl, ifF rfl ?_⟩
        unfold bd
        rw [show IntKind.i64.wrap ((i : Int) + 1) = ((i + 1 : Nat) : Int) from wrapS (by omega) (by omega)]
        refine ct_add hn hm ht hK fuel (i + 1) h1 (by omega) (by omega) ?_
        rw [rowF_succ, show ((i + 1 : Nat) : Int) = (i : Int) + 1 by omega]
        exact S1
      refine ifT (by simp; omega) ?_
      by_cases hin : i < n
      · exact ifF (by simp; omega) (j9 _ (by rw [if_pos hin]))
      · exact ifT (by simp; omega) (j9 _ (by rw [if_neg hin]))
    · have : i = n + m := by omega
      subst this
      refine ifF (by simp) ?_
      unfold waybilllaw19_ConsTurns.j2
      have hsplit : ∀ (k : Nat), rowF (n + k) (ctC n) = rowF n (ctC n) ++ rowF k fun j => ctC n (n + j) := by
        intro k
        induction k with
        | zero => simp [rowF]
        | succ k ih => rw [show n + (k + 1) = n + k + 1 by omega, rowF_succ, ih, rowF_succ, List.append_assoc]
      have hall : ∀ (f : Nat → CN) (k : Nat) (q : List UInt8), (∀ j, j < k → quC (f j) = q) → ∀ q', (rowF k f).filter (fun c => quC c == q') = if q = q' then rowF k f else [] := fun f k q hf q' => by
        by_cases e : q = q'
        · subst e
          rw [if_pos rfl]
          exact List.filter_eq_self.2 fun x hx => by
            unfold rowF at hx
            obtain ⟨j, hj, rfl⟩ := List.mem_map.1 hx
            exact beq_iff_eq.2 (hf j (List.mem_range.1 hj))
        · rw [if_neg e]
          exact List.filter_eq_nil_iff.2 fun x hx => by
            unfold rowF at hx
            obtain ⟨j, hj, rfl⟩ := List.mem_map.1 hx
            rw [hf j (List.mem_range.1 hj)]
            simpa using e
      have q1 : ∀ j, j < n → quC (ctC n j) = [113] := fun j hj => by show (if j < n then _ else _) = _; rw [if_pos hj]
      have q2 : ∀ j, j < m → quC (ctC n (n + j)) = [114] := fun j hj => by show (if n + j < n then _ else _) = _; rw [if_neg (by omega)]
      refine ⟨t + 1, ct_turn hn hm ht hK _ 0 _ _ h (by omega) (by omega) ⟨?_, ?_, by rw [rowF_len]⟩ (by omega) S⟩
      · unfold ofC
        rw [hsplit, List.filter_append, hall _ _ _ q1, hall _ _ _ q2, if_pos rfl, if_neg (by decide), List.append_nil]
        unfold ctQ
        exact rowF_congr fun j hj => by rw [Nat.zero_add, Nat.mod_eq_of_lt hj]
      · unfold ofC
        rw [hsplit, List.filter_append, hall _ _ _ q1, hall _ _ _ q2, if_pos rfl, if_neg (by decide), List.nil_append]

theorem ConsTurns.law {h : Heap} (a : Int) (ha : -9223372036854775808 ≤ a ∧ a < 9223372036854775808) (b : Int) (hb : -9223372036854775808 ≤ b ∧ b < 9223372036854775808) (c : Int) (hc : -9223372036854775808 ≤ c ∧ c < 9223372036854775808) :
    CallsH P F.waybilllaw19_ConsTurns [.int .i64 a, .int .i64 b, .int .i64 c] (fun v h' => v = .bool true ∧ Kept h h') h := by
  refine waybilllaw19_ConsTurns.ok ?_
  unfold waybilllaw19_ConsTurns.p0
  unfold bd
  have e63 : bitsI .and .i64 c 63 = c % 64 := mask_i64 c 6 (by decide)
  rw [m7, m7, e63]
  obtain ⟨x, hx⟩ := Int.eq_ofNat_of_zero_le (show 0 ≤ a % 8 by omega)
  obtain ⟨y, hy⟩ := Int.eq_ofNat_of_zero_le (show 0 ≤ b % 8 by omega)
  obtain ⟨z, hz⟩ := Int.eq_ofNat_of_zero_le (show 0 ≤ c % 64 by omega)
  rw [hx, hy, hz, show IntKind.i64.wrap ((x : Int) + 1) = ((x + 1 : Nat) : Int) from wrapS (by omega) (by omega)]
  refine newConW (St.old h) fun h1 s S1 => ⟨_, rfl, ifF' rfl (awake19S S1 fun h2 S2 => ⟨_, rfl, ?_⟩)⟩
  unfold waybilllaw19_ConsTurns.j1
  exact ifF rfl ⟨x + 1 + y + 1, ct_add (n := x + 1) (m := y) (t := z) (by omega) (by omega) (by omega) (fun h' S' => ⟨rfl, S'.keptOld (List.mem_cons_self ..)⟩) _ 0 h2 (by omega) (by omega) S2⟩
end
end Go.Proofs.Ytechpnlbkkfplaa.Pr
