/- UnakMarks: what is marked is not found any more till all is cleared, but it is there. -/
import Derived.Test.YtechpnlbkkfplaaAwake18
import Derived.Test.YtechpnlbkkfplaaLawsC
import Derived.Test.YtechpnlbkkfplaaPrLaw18Unakmarks
import Derived.Test.YtechpnlbkkfplaaLiftArg
set_option linter.unusedVariables false
set_option linter.unusedSimpArgs false
namespace Go.Proofs.Ytechpnlbkkfplaa.Pr
open Go Go.Lift Go.Proofs

theorem sl_bool' : SlT P T.sl_bool T.bool 1 1 [.bool false] := slT (by kernel_rfl) (by kernel_rfl)
abbrev uG : Nat → Int := fun j => (j : Int) + 1
theorem uMono (n : Nat) : Mono n uG := fun i j h _ => by show (i : Int) + 1 < j + 1; omega
abbrev umH' (j : Nat) : Hld := ([113], ((j + 100 : Nat) : Int))
abbrev umW (n : Nat) : URow := rw' n uG fun j => (umH' j, false)
abbrev goneB (ts : List Int) (t : Nat) : Bool := decide (1 ≤ t ∧ (t : Int) ∈ ts)
/-- How many are left. -/
abbrev umK (n : Nat) (ts : List Int) : Nat := cnt n fun j => !goneB ts (j + 1)

section
variable {K : KT} {L : List Asr} {u : Addr} {n : Nat} {ts : List Int} {t q : SV}

theorem goneB_pos (ts : List Int) (j : Nat) : goneB ts (j + 1) = decide (((j : Int) + 1) ∈ ts) := by
  unfold goneB
  rw [show ((j + 1 : Nat) : Int) = (j : Int) + 1 by omega]
  simp
theorem umMark (n : Nat) (ts : List Int) : (markU (umW n) fun k => decide (k ∈ ts)) = rw' n uG fun j => (umH' j, goneB ts (j + 1)) := by
  unfold markU umW rw' rowF
  rw [List.map_map]
  refine List.map_congr_left fun j _ => ?_
  show (uG j, (umH' j, false || decide (uG j ∈ ts))) = (uG j, (umH' j, goneB ts (j + 1)))
  rw [goneB_pos]; rfl
abbrev umM (n : Nat) (ts : List Int) : URow := rw' n uG fun j => (umH' j, goneB ts (j + 1))
theorem umM_in (ts : List Int) : (inU (umM n ts) ts).length + umK n ts = n := by
  unfold inU umM
  rw [List.length_map, rowF_filter, show (cnt n fun j => decide (uG j ∈ ts)) = cnt n fun j => goneB ts (j + 1) from cnt_congr fun j _ => (goneB_pos ts j).symm]
  exact cnt_not n _
theorem umM_out (ts : List Int) : (outU (umM n ts) ts).length = umK n ts := by
  unfold outU umM
  rw [rowF_filter]
  exact cnt_congr fun j _ => by rw [goneB_pos]
theorem umM_find (ts : List Int) : (findU (umM n ts) 0).length = umK n ts := by
  unfold findU umM
  rw [List.length_map, rowF_filter]
  exact cnt_congr fun j _ => by simp
theorem find_clear (W : URow) : (findU (W.map fun x => (x.1, (x.2.1, false))) 0).length = W.length := by
  unfold findU
  rw [List.length_map, List.filter_eq_self.2, List.length_map]
  intro x hx
  obtain ⟨y, hy, rfl⟩ := List.mem_map.1 hx
  rfl

theorem um_end (hn : n ≤ 31) (hl : ts.length ≤ 20) (hK : ∀ h', St L h' → K (.bool true) h') {h : Heap} [In (Im 1 q) L (ts.map kkU)] (S : St (UnW u (umM n ts) n :: L) h) : waybilllaw18_UnakMarks.j6 K n (some u) q.1 q.2.1 q.2.2 (umK n ts) false h := by
  unfold waybilllaw18_UnakMarks.j6
  refine ifF rfl (takeUnakW (s := q) (ts := ts) S (by omega) fun h1 o S1 => ⟨_, _, _, rfl, ?_⟩)
  refine lenUnakW S1.p1 fun h2 S2 => ⟨_, rfl, ?_⟩
  have c1 := umM_in (n := n) ts
  have eo : o.2.1 = n - umK n ts := by
    have := S2.p1.ow.1
    rw [hdc_len2] at this
    omega
  refine ifF' (by rw [umM_out]; simp) ?_
  rw [eo, show IntKind.i64.wrap ((n : Int) - (umK n ts : Nat)) = ((n - umK n ts : Nat) : Int) from wrapS (by omega) (by omega), show (((n - umK n ts : Nat) : Int) != ((n - umK n ts : Nat) : Int)) = false by simp]
  unfold waybilllaw18_UnakMarks.j7
  refine ifF rfl (clearUnakW S2 fun h3 S3 => ⟨rfl, ?_⟩)
  have hlen : (outU (umM n ts) ts).length ≤ 31 := by rw [umM_out]; have := cnt_le n fun j => !goneB ts (j + 1); omega
  refine findUnakW S3 (by rw [List.length_map]; omega) (by omega) fun h4 s S4 => ⟨s.1, s.2.1, s.2.2, _, rfl, ?_⟩
  have ef : findO ((outU (umM n ts) ts).map fun x => (x.1, (x.2.1, false))) 0 true = some (findU ((outU (umM n ts) ts).map fun x => (x.1, (x.2.1, false))) 0) := by unfold findO; simp
  rw [ef] at S4
  have es : s.2.1 = umK n ts := by
    have := S4.ow.1
    rw [List.length_map, Option.getD_some, find_clear, umM_out] at this
    omega
  refine ifT (by rw [es]; simp) (addUnakW (x := ([], 0)) S4.p1 (by omega) fun h5 S5 => ⟨_, rfl, ?_⟩)
  rw [show IntKind.u64.wrap (IntKind.i64.wrap ((n : Int) + 1)) = (n : Int) + 1 by rw [wrapS (n := n + 1) (by omega) (by omega), wrapU (by omega)]; omega, show (((n : Int) + 1) == ((n : Int) + 1)) = true by simp]
  exact hK h5 S5.tl.tl.tl

theorem um_count (hn : n ≤ 31) (hl : ts.length ≤ 20) {f : SV} (hf : f.2.1 = umK n ts) {g : SV} (hK : ∀ h', St L h' → K (.bool true) h') [In (Im 1 q) L (ts.map kkU)] : ∀ (fuel i : Nat) (h : Heap), n - i < fuel → i ≤ n → St (UnW u (umM n ts) n :: Ow 1 g (flags (n + 1) (goneB ts)) :: L) h →
    waybilllaw18_UnakMarks.L8 K fuel n (some u) q.1 q.2.1 q.2.2 g.1 g.2.1 g.2.2 f.1 f.2.1 f.2.2 ((cnt i fun j => !goneB ts (j + 1) : Nat) : Int) ((i + 1 : Nat) : Int) h
  | 0, _, _, hf', _, _ => absurd hf' (Nat.not_lt_zero _)
  | fuel + 1, i, h, hf', hi, S => by
    unfold waybilllaw18_UnakMarks.L8
    by_cases hlt : i < n
    · have next : ∀ c : Nat, c = cnt (i + 1) (fun j => !goneB ts (j + 1)) → waybilllaw18_UnakMarks.j9 K (waybilllaw18_UnakMarks.L8 K fuel) n (some u) q.1 q.2.1 q.2.2 g.1 g.2.1 g.2.2 f.1 f.2.1 f.2.2 c ((i + 1 : Nat) : Int) h := fun c ec => by
        unfold waybilllaw18_UnakMarks.j9
        unfold bd
        rw [show IntKind.i64.wrap (((i + 1 : Nat) : Int) + 1) = ((i + 1 + 1 : Nat) : Int) from wrapS (by omega) (by omega), ec]
        exact um_count hn hl hf hK fuel (i + 1) h (by omega) (by omega) S
      have hc := cnt_le i fun j => !goneB ts (j + 1)
      refine ifT (by simp; omega) (ixV (n := i + 1) (w := .bool (goneB ts (i + 1))) S.p1.sl rfl (rowF_get _ (by omega)) fun p ep cp => ⟨_, cp, ?_⟩)
      have cs := cnt_succ i fun j => !goneB ts (j + 1)
      cases hg : goneB ts (i + 1) with
      | false =>
        refine ifT rfl ?_
        unfold bd
        rw [wrapS (n := (cnt i fun j => !goneB ts (j + 1)) + 1) (by omega) (by omega)]
        exact next _ (by rw [cs, hg]; rfl)
      | true => exact ifF rfl (next _ (by rw [cs, hg]; rfl))
    · have : i = n := by omega
      subst this
      refine ifF (by simp; omega) ?_
      unfold waybilllaw18_UnakMarks.j5
      refine ifF' (by rw [hf]; exact bne_self_eq_false _) (lenUnakW S fun h1 S1 => ⟨_, rfl, ?_⟩)
      rw [rw_len, show ((i : Int) != (i : Int)) = false by simp]
      exact um_end (L := Ow 1 g (flags (i + 1) (goneB ts)) :: L) hn hl (fun h' S' => hK h' S'.tl) S1

theorem um_find (hn : n ≤ 31) (hl : ts.length ≤ 20) {g : SV} (hK : ∀ h', St L h' → K (.bool true) h') [In (Im 1 q) L (ts.map kkU)] : ∀ (fuel i : Nat) (h : Heap), n - i < fuel → i ≤ n → St (UnW u (umM n ts) n :: Ow 1 g (flags (n + 1) (goneB ts)) :: L) h →
    waybilllaw18_UnakMarks.L10 K fuel n (some u) q.1 q.2.1 q.2.2 g.1 g.2.1 g.2.2 ((i + 1 : Nat) : Int) h
  | 0, _, _, hf', _, _ => absurd hf' (Nat.not_lt_zero _)
  | fuel + 1, i, h, hf', hi, S => by
    unfold waybilllaw18_UnakMarks.L10
    by_cases hlt : i < n
    · rw [wrapU (by omega)]
      have eu : ((i + 1 : Nat) : Int) = uG i := by show ((i + 1 : Nat) : Int) = (i : Int) + 1; omega
      have ho : openU (umM n ts) ((i + 1 : Nat) : Int) = !goneB ts (i + 1) := by
        unfold openU
        rw [eu, (uMono n).get _ hlt]; rfl
      have ef : findO (umM n ts) ((i + 1 : Nat) : Int) false = if goneB ts (i + 1) then none else some [((i + 1 : Nat) : Int)] := by
        unfold findO
        rw [ho]; cases goneB ts (i + 1) <;> rfl
      refine ifT (by simp; omega) (findUnakW S (by rw [rw_len]; omega) (by omega) fun h1 s S1 => ⟨s.1, s.2.1, s.2.2, _, rfl, ?_⟩)
      rw [ef] at S1
      refine ixV (n := i + 1) (w := .bool (goneB ts (i + 1))) S1.p2.sl rfl (rowF_get _ (by omega)) fun p ep cp => ⟨_, cp, ?_⟩
      have next : St (UnW u (umM n ts) n :: Ow 1 g (flags (n + 1) (goneB ts)) :: L) h1 → waybilllaw18_UnakMarks.j11 K (waybilllaw18_UnakMarks.L10 K fuel) n (some u) q.1 q.2.1 q.2.2 g.1 g.2.1 g.2.2 ((i + 1 : Nat) : Int) false h1 := fun S' => by
        unfold waybilllaw18_UnakMarks.j11
        refine ifF rfl ?_
        unfold bd
        rw [show IntKind.i64.wrap (((i + 1 : Nat) : Int) + 1) = ((i + 1 + 1 : Nat) : Int) from wrapS (by omega) (by omega)]
        exact um_find hn hl hK fuel (i + 1) h1 (by omega) (by omega) S'
      rw [ef]
      cases hg : goneB ts (i + 1) with
      | true => exact ifF' rfl (ifF rfl (next S1.tl))
      | false =>
        rw [hg] at S1
        have el : s.2.1 = 1 := by have := S1.ow.1; simp at this; omega
        refine ifF' rfl (ifT rfl (ifF' (by rw [el]; rfl) (ixV (n := 0) (w := .int .u64 ((i + 1 : Nat) : Int)) S1.sl rfl rfl fun p2 ep2 cp2 => ⟨_, cp2, ?_⟩)))
        rw [show ((((i + 1 : Nat) : Int)) != ((i + 1 : Nat) : Int)) = false by simp]
        exact next S1.tl
    · have : i = n := by omega
      subst this
      refine ifF (by simp; omega) ?_
      unfold waybilllaw18_UnakMarks.j4
      refine findUnakW S (by rw [rw_len]; omega) (by omega) fun h1 s S1 => ⟨s.1, s.2.1, s.2.2, _, rfl, i + 1, ?_⟩
      have ef : findO (umM i ts) 0 true = some (findU (umM i ts) 0) := by unfold findO; simp
      rw [ef, Option.getD_some] at S1
      have es : s.2.1 = umK i ts := by
        have := S1.ow.1
        rw [List.length_map, umM_find] at this
        omega
      exact um_count (f := s) hn hl es hK _ 0 h1 (by omega) (by omega) S1.tl

theorem um_marks {xs : List Int} [In (Im 1 t) L (xs.map kkU)] (ht : t.2.1 = xs.length) (hw : ∀ x ∈ xs, 0 ≤ x ∧ x < 18446744073709551616) (hn : n ≤ 31) {g : SV} (hK : ∀ h', St L h' → K (.bool true) h') :
    ∀ (fuel i : Nat) (q : SV) (ts : List Int) (h : Heap), xs.length - i < fuel → i ≤ xs.length → ts.length = i → i ≤ 20 → St (Ow 1 q (ts.map kkU) :: UnW u (umW n) n :: Ow 1 g (flags (n + 1) (goneB ts)) :: L) h →
    waybilllaw18_UnakMarks.L12 K fuel n t.1 t.2.1 t.2.2 (some u) q.1 q.2.1 q.2.2 g.1 g.2.1 g.2.2 i h
  | 0, _, _, _, _, hf', _, _, _, _ => absurd hf' (Nat.not_lt_zero _)
  | fuel + 1, i, q, ts, h, hf', hi, hts, h20, S => by
    unfold waybilllaw18_UnakMarks.L12
    have jF : waybilllaw18_UnakMarks.j13 K (waybilllaw18_UnakMarks.L12 K fuel) n t.1 t.2.1 t.2.2 (some u) q.1 q.2.1 q.2.2 g.1 g.2.1 g.2.2 i false h := by
      unfold waybilllaw18_UnakMarks.j13
      refine ifF rfl ?_
      unfold waybilllaw18_UnakMarks.j3
      have S1 : St (UnW u (umW n) n :: Ow 1 g (flags (n + 1) (goneB ts)) :: Im 1 q (ts.map kkU) :: L) h := S.im.p2.p2
      refine markUnakW (L := Ow 1 g (flags (n + 1) (goneB ts)) :: Im 1 q (ts.map kkU) :: L) (s := q) (ts := ts) S1 (by omega) fun h2 S2 => ⟨rfl, n + 1, ?_⟩
      rw [umMark] at S2
      exact um_find (L := Im 1 q (ts.map kkU) :: L) hn (by omega) (fun h' S' => hK h' S'.tl) _ 0 h2 (by omega) (by omega) S2
    by_cases hlt : i < xs.length
    · refine ifT (by simp [ht]; omega) ?_
      by_cases h2 : i < 20
      · rw [show decide ((i : Int) < 20) = true by simp; omega]
        unfold waybilllaw18_UnakMarks.j13
        refine ifT rfl (ixV (n := i) (w := .int .u64 xs[i]) (S.isl 1 t) rfl (by simp [hlt]) fun p ep cp => ⟨xs[i], cp, ?_⟩)
        have e3 : IntKind.u64.wrap (IntKind.i64.wrap ((n : Int) + 3)) = ((n + 3 : Nat) : Int) := by rw [wrapS (n := n + 3) (by omega) (by omega), wrapU (by omega)]
        rw [e3]
        refine ⟨by omega, ?_⟩
        obtain ⟨j, hj, ej⟩ := tmodN (a := xs[i]) (n := n + 3) (hw _ (List.getElem_mem hlt)).1 (by omega)
        rw [ej, show IntKind.u64.wrap ((j : Int) + 0) = (j : Int) by rw [show (j : Int) + 0 = ((j : Nat) : Int) by omega, wrapU (by omega)]]
        unfold bd
        have S4 := S.al [.int .u64 (j : Int)] T.uint64
        have sa : Sl 1 (al h [Value.int .u64 (j : Int)].toArray T.uint64) (some (top h)) 1 [.int .u64 (j : Int)] := ⟨rfl, S4.mem.1⟩
        have lq : q.2.1 = i := by have := S.ow.1; simp at this; omega
        refine S4.p1.app sl_u64' rfl u_slu' (fun k e => by cases e) (Src.slice (n := 1) (c := 1) sa (by simp [one])) (by omega) (by omega) fun p' c' h' S' => ⟨_, _, _, rfl, ?_⟩
        have S5 : St (Ow 1 (p', q.2.1 + 1, c') ((ts ++ [(j : Int)]).map kkU) :: UnW u (umW n) n :: Ow 1 g (flags (n + 1) (goneB ts)) :: L) h' := by rw [List.map_append]; exact S'.d1
        have next : ∀ h2, St (Ow 1 (p', q.2.1 + 1, c') ((ts ++ [(j : Int)]).map kkU) :: UnW u (umW n) n :: Ow 1 g (flags (n + 1) (goneB (ts ++ [(j : Int)]))) :: L) h2 → waybilllaw18_UnakMarks.j14 K (waybilllaw18_UnakMarks.L12 K fuel) n t.1 t.2.1 t.2.2 (some u) p' (q.2.1 + 1) c' g.1 g.2.1 g.2.2 i h2 := fun h2 S2 => by
          unfold waybilllaw18_UnakMarks.j14
          unfold bd
          rw [show IntKind.i64.wrap ((i : Int) + 1) = ((i + 1 : Nat) : Int) from wrapS (by omega) (by omega)]
          exact um_marks ht hw hn hK fuel (i + 1) (p', q.2.1 + 1, c') (ts ++ [(j : Int)]) h2 (by omega) (by omega) (by simp [hts]) (by omega) S2
        have j15F : (j = 0 ∨ n < j) → waybilllaw18_UnakMarks.j15 K (waybilllaw18_UnakMarks.L12 K fuel) n t.1 t.2.1 t.2.2 (some u) p' (q.2.1 + 1) c' g.1 g.2.1 g.2.2 i j false h' := fun hj0 => by
          unfold waybilllaw18_UnakMarks.j15
          refine ifF rfl (next h' ?_)
          rw [show flags (n + 1) (goneB (ts ++ [(j : Int)])) = flags (n + 1) (goneB ts) from flags_congr fun k hk => by
            unfold goneB
            simp only [List.mem_append, List.mem_singleton]
            congr 1
            apply propext
            constructor
            · rintro ⟨a, b | b⟩
              · exact ⟨a, b⟩
              · omega
            · exact fun ⟨a, b⟩ => ⟨a, .inl b⟩]
          exact S5
        by_cases h1 : 1 ≤ j
        · refine ifT (by simp; omega) ?_
          rw [show IntKind.i64.wrap (j : Int) = ((j : Nat) : Int) from wrapS rfl (by omega)]
          by_cases hjn : j ≤ n
          · rw [show decide ((j : Int) ≤ (n : Int)) = true by simp; omega]
            unfold waybilllaw18_UnakMarks.j15
            refine ifT rfl (St.owSet (n := j) S5.p2 rfl (by rw [rowF_len]; omega) rfl fun h2 S2 => next h2 ?_)
            rw [flags_set _ (by omega)] at S2
            rw [show flags (n + 1) (goneB (ts ++ [(j : Int)])) = flags (n + 1) (fun i => if i = j then true else goneB ts i) from flags_congr fun k hk => by
              unfold goneB
              simp only [List.mem_append, List.mem_singleton]
              by_cases e : k = j
              · subst e; simp [h1]
              · have e2 : ¬ (k : Int) = j := by omega
                simp [e, e2]]
            exact S2.p2.p2
          · rw [show decide ((j : Int) ≤ (n : Int)) = false by simp; omega]
            exact j15F (.inr (by omega))
        · exact ifF (by simp; omega) (j15F (.inl (by omega)))
      · rw [show decide ((i : Int) < 20) = false by simp; omega]
        exact jF
    · exact ifF (by simp [ht]; omega) jF

theorem um_add {xs : List Int} [In (Im 1 t) L (xs.map kkU)] (ht : t.2.1 = xs.length) (hw : ∀ x ∈ xs, 0 ≤ x ∧ x < 18446744073709551616) (hn : n ≤ 31) (hK : ∀ h', St L h' → K (.bool true) h') :
    ∀ (fuel i : Nat) (h : Heap), n - i < fuel → i ≤ n → St (UnW u (umW i) i :: L) h → waybilllaw18_UnakMarks.L16 K fuel n t.1 t.2.1 t.2.2 (some u) i h
  | 0, _, _, hf', _, _ => absurd hf' (Nat.not_lt_zero _)
  | fuel + 1, i, h, hf', hi, S => by
    unfold waybilllaw18_UnakMarks.L16
    by_cases hlt : i < n
    · refine ifT (by simp; omega) ?_
      rw [show IntKind.u64.wrap (IntKind.i64.wrap ((i : Int) + 100)) = ((i + 100 : Nat) : Int) by rw [wrapS (n := i + 100) (by omega) (by omega), wrapU (by omega)]]
      refine addUnakW (x := umH' i) S (by omega) fun h1 S1 => ⟨_, rfl, ?_⟩
      unfold bd
      rw [show IntKind.i64.wrap ((i : Int) + 1) = ((i + 1 : Nat) : Int) from wrapS (by omega) (by omega)]
      refine um_add ht hw hn hK fuel (i + 1) h1 (by omega) (by omega) ?_
      rw [show umW (i + 1) = umW i ++ [((i : Int) + 1, (umH' i, false))] from rowF_succ i _, show ((i + 1 : Nat) : Int) = (i : Int) + 1 by omega]
      exact S1
    · have : i = n := by omega
      subst this
      refine ifF (by simp) ?_
      unfold waybilllaw18_UnakMarks.j2
      rw [show IntKind.i64.wrap ((i : Int) + 1) = ((i + 1 : Nat) : Int) from wrapS (by omega) (by omega)]
      refine S.make1 sl_bool' rfl (by omega) (by omega) fun h1 S1 => ⟨_, _, _, rfl, xs.length + 1, ?_⟩
      rw [← flags_new] at S1
      refine um_marks (n := i) (g := (some (top h), i + 1, i + 1)) ht hw hn hK _ 0 (none, 0, 0) [] h1 (by omega) (by omega) rfl (by omega) ?_
      rw [show flags (i + 1) (goneB []) = flags (i + 1) (fun _ => false) from flags_congr fun k _ => by unfold goneB; simp]
      exact (S1.owNil 1).p2.p1

theorem UnakMarks.law {h : Heap} (a : Int) (ha : -9223372036854775808 ≤ a ∧ a < 9223372036854775808) (s : SV) (xs : List Int) (sl : Sl 1 h s.1 s.2.1 (xs.map fun n => .int .u64 n)) (le : s.2.1 ≤ s.2.2) (mx : s.2.2 ≤ maxLen) (wx : ∀ x ∈ xs, (Lit.int .u64 x).wf = true) :
    CallsH P F.waybilllaw18_UnakMarks [.int .i64 a, s.v] (fun v h' => v = .bool true ∧ Kept h h') h := by
  refine waybilllaw18_UnakMarks.ok ?_
  unfold waybilllaw18_UnakMarks.p0
  unfold bd
  have ls : s.2.1 = xs.length := by have := sl.1; simpa using this.symm
  have S0 : St (Im 1 s (xs.map kkU) :: [Old h]) h := (St.old h).imOld (List.mem_cons_self ..) sl le
  refine newUnakW S0 fun h1 u S1 => ⟨_, rfl, ifF' rfl (awake18S S1 fun h2 S2 => ⟨_, rfl, ?_⟩)⟩
  unfold waybilllaw18_UnakMarks.j1
  rw [m31]
  obtain ⟨n, hn⟩ := Int.eq_ofNat_of_zero_le (show 0 ≤ a % 32 by omega)
  rw [hn]
  refine ifF rfl ⟨n + 1, um_add (L := Im 1 s (xs.map kkU) :: [Old h]) (n := n) ls (fun x hx => wf_u64 (wx x hx)) (by omega) (fun h' S' => ⟨rfl, S'.keptOld (List.mem_cons_of_mem _ (List.mem_cons_self ..))⟩) _ 0 h2 (by omega) (by omega) S2⟩
end
end Go.Proofs.Ytechpnlbkkfplaa.Pr
