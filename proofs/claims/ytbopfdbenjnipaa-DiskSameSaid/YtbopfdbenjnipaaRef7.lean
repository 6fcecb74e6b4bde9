/- The reference's disk: Crash (39). -/
import Derived.Test.YtbopfdbenjnipaaRef6
import Derived.StillTailTactics
import Derived.Deep.RegionLaw
namespace Go.Proofs.Ytbopfdbenjnipaa
set_option maxRecDepth 100000
open Go.RowKit Go.Maps Go.Sort
variable {w : World} {x : Nat} {R : Rf} {fp : List Nat}
theorem crashF_one_keep {f : Fl} {ks : List Int} (h : f.fresh = false ∧ f.synced = f.bytes.size) : crashF [f] ks = [f] ∧ crashK [f] ks = ks := by
  refine ⟨by rw [crashF_keep _ _ h]; rfl, by rw [crashK, if_pos h]; rfl⟩
theorem crashF_one_gone {f : Fl} {ks : List Int} (h : ¬ (f.fresh = false ∧ f.synced = f.bytes.size)) (h2 : f.fresh = true ∧ ks.headD (-1) < 0) : crashF [f] ks = [] ∧ crashK [f] ks = ks.tail := by
  refine ⟨by rw [crashF_gone _ _ h h2]; rfl, by rw [crashK, if_neg h]; rfl⟩
theorem crashF_one_cut {f : Fl} {ks : List Int} (h : ¬ (f.fresh = false ∧ f.synced = f.bytes.size)) (h2 : ¬ (f.fresh = true ∧ ks.headD (-1) < 0)) : crashF [f] ks = [cutTo f (ks.headD (-1))] ∧ crashK [f] ks = ks.tail := by
  refine ⟨by rw [crashF_cut _ _ h h2]; rfl, by rw [crashK, if_neg h]; rfl⟩
theorem crashF_len (l : List Fl) (ks : List Int) : (crashF l ks).length ≤ l.length := by
  have := (crashF_names l ks).length_le
  simpa using this
theorem cells_four2 (w : World) (o : Obj) (a b c d : Value) (t : TypeId) : ∀ j u, [a, b, c, d][j]? = some u → ((w.alloc o).alloc (.cells #[a, b, c, d] t)).cell? ((⟨w.heap.size + 1, 0, none⟩ : Addr).add j) = some u := by
  have h := cells_four (w.alloc o) a b c d t
  have e : (w.alloc o).heap.size = w.heap.size + 1 := by simp
  rw [e] at h
  exact h
theorem cell_alloc' {w : World} {a : Addr} {v : Value} (o : Obj) (h : w.cell? a = some v) : (w.alloc o).cell? a = some v := by
  rw [World.cell?_of_block (w := w) (Below.heap_alloc w o a.block (World.block_lt_of_cell? w a h))]
  exact h
theorem step_append_own {P : Program} {ops : Array Oper} {o : Oper} {a : Act} {w : World} {K : Act → World → Prop} {Q : Exit → Act → World → Prop} {E : Prop}
    (hg : o.guard = none) (s x : Operand) (t : TypeId) (hop : o.op = Op.call { callee := Callee.builtin Builtin.append, args := #[s, x], argTypes := #[t, t] })
    (base : Nat) (e : TypeId) (i : TypeInfo) (z : Value) (size bytes : Nat) (ht : P.underlying t = some (.slice e)) (hi : P.info? e = some i) (hz : i.zero = some z)
    (hsize : i.size = size) (hby : i.bytes = bytes) (hzs : z.cells.size = size) (hsz : 0 < size)
    (v : Value) (n : Nat) (xs : List Value) (hs : a.eval s = v) (hown : w.ownsRow base e size v n xs)
    (ad : Addr) (m c : Nat) (news : List Value) (hx : a.eval x = .slice (some ad) m c) (hl : news.length = m * size) (hnews : ∀ j u, news[j]? = some u → w.cell? (ad.add j) = some u) (h1 : ∀ u ∈ news, u.oneCell' = true)
    (h63 : n + m ≤ maxLen) (hbytes : (n + m) * bytes ≤ 140737488355328) (hbase : base ≤ w.heap.size)
    (h : ∀ v' w', w'.ownsRow base e size v' (n + m) (xs ++ news) → w.grownBy w' v.ownBlock → K (a.put o.dst v') w') :
    if Region.wanted o (yielded ops a.tmps) = true then Oper.wp P o a w K Q else E := by
  have hw : Region.wanted o (yielded ops a.tmps) = true := by simp [Region.wanted, hg]
  rw [if_pos hw]
  exact wp_append_own w s x t hop base e i z size bytes ht hi hz hsize hby hzs hsz v n xs hs hown ad m c news hx hl hnews h1 h63 hbytes hbase fun v' w' h2 h3 _ => h v' w' h2 h3
set_option maxHeartbeats 8000000 in
theorem rcrash_any (h : RefAt w x R fp) (hR : R.Ok) (v : Value) (ks : List Int) (hk : KeepAt w v ks (fun b => b ∉ fp ∧ b < w.heap.size)) (hwf : ∀ i, -9223372036854775808 ≤ ks.getD i 0 ∧ ks.getD i 0 ≤ 9223372036854775807) :
    Calls Try.prog 39 #[.pointer (some ⟨x, 0, none⟩), v] w fun e w' => e = .returned (.tuple #[]) ∧ RAfter w x fp (R.crash ks) w' := by
  have h0 := h
  obtain ⟨vl, h⟩ := h
  have hfew : R.L.length ≤ 64 := hR.few
  have hsyn := hR.synced
  have hsize := fun i (hi : i < R.L.length) => Rf.Ok.size_le hR hi
  obtain ⟨a0, cap0, rfl, hcap0, hcapm0, hcells⟩ := hk
  obtain ⟨a, cap, hve, hcap, hcapm, _⟩ := h.shape
  subst hve
  have HL := Lib.hid h
  have HS := Lib.hid (And.intro hsyn hsize)
  have HC := Lib.hid hcells
  clear hR h0 h hsyn hsize hcells
  obtain ⟨i0, hi, hz0, hz1, hz2⟩ := info_parts info78
  go_enter Try.func39, Try.ntmps39
  go_wp2
  go_loopw [4, 5, 6] (fun l kk j wr => ∃ k : Nat, k ≤ R.L.length ∧ j = .int .i64 k ∧ (∃ m : Nat, m ≤ k ∧ kk = .int .i64 m ∧ Hid (crashK (R.L.take k) ks = ks.drop m)) ∧ Below w.heap.size w wr ∧ wr.ownsRow w.heap.size 78 4 l (crashF (R.L.take k) ks).length (flat (crashF (R.L.take k) ks))) (fun _ _ j _ => R.L.length - (intOf j).toNat)
  case atStart => exact ⟨0, Nat.zero_le _, rfl, ⟨0, Nat.le_refl _, rfl, rfl⟩, Below.refl _ _, World.ownsRow_nil _ _ _ _⟩
  case round =>
    obtain ⟨k, hk, rfl, ⟨m, hm, rfl, hK⟩, hb, hown⟩ := hrel
    have hl := HL.out.below hb
    have cr1 := hl.cell.2.1
    have HB := Lib.hid hb
    by_cases hlt2 : k < R.L.length
    · have hts := take_snoc' R.L hlt2
      obtain ⟨a', cap', e, _, _, hs⟩ := hl.shape
      simp only [Value.slice.injEq] at e
      obtain ⟨rfl, -, rfl⟩ := e
      rcases hs with hz | ⟨g, rfl, _, _, hs⟩
      · omega
      obtain ⟨k0, k1, k2, k3⟩ := hs k hlt2
      have hflat : flat [R.L[k]] = [.string ⟨R.L[k].name.toArray⟩, .string R.L[k].bytes, .int .i64 (R.L[k].synced : Int), .bool R.L[k].fresh] := rfl
      have eF : crashF (R.L.take (k + 1)) ks = crashF (R.L.take k) ks ++ crashF [R.L[k]] (ks.drop m) := by rw [hts, crashF_append, hK.out]
      have eK : crashK (R.L.take (k + 1)) ks = crashK [R.L[k]] (ks.drop m) := by rw [hts, crashK_append, hK.out]
      have hDl : (crashF (R.L.take k) ks).length ≤ 64 := by have := crashF_len (R.L.take k) ks; rw [List.length_take] at this; omega
      have hsy := HS.out.1 _ (List.getElem_mem hlt2)
      have hsz := HS.out.2 k hlt2
      generalize crashF (R.L.take k) ks = D at *
      generalize R.L[k] = f at *
      have HF := Lib.hid hflat
      have EF := Lib.hid eF
      have EK := Lib.hid eK
      clear hs hl hts eF eK hflat hK
      by_cases hc : f.fresh = false ∧ f.synced = f.bytes.size
      · obtain ⟨e1, e2⟩ := crashF_one_keep (ks := ks.drop m) hc
        have E1 := Lib.hid e1
        have E2 := Lib.hid e2
        obtain ⟨hc1, hc2⟩ := hc
        have hq : ((f.synced : Int) == (f.bytes.size : Int)) = true := by simp [hc2]
        rw [hc1] at k3
        clear e1 e2 hc2
        go_wp2_with (at_builtin; go_must (refine wpList_append_own _ rfl _ _ 68 rfl w.heap.size 78 i0 (.agg #[.string ByteArray.empty, .string ByteArray.empty, .int .i64 0, .bool false]) 4 48 Try.underlying68 hi hz0 hz1 hz2 rfl (by decide) _ D.length (flat D) rfl ((hown.alloc _).alloc _) ⟨wr.heap.size + 1, 0, none⟩ 1 1 [.string ⟨f.name.toArray⟩, .string f.bytes, .int .i64 (f.synced : Int), .bool false] rfl rfl (cells_four2 _ _ _ _ _ _ _) (by simp [Value.oneCell']) (by unfold maxLen; omega) (by omega) (by have := HB.out.size; simp; omega) ?_); intro v' w1 hown' hgrow _)
        have hb1 : Below w.heap.size w w1 := ((HB.out.alloc HB.out.size _).alloc (by have := HB.out.size; simp; omega) _).grown hgrow (by have := HB.out.size; simp; omega) (fun k hk => (hown.lt k hk).1)
        have HB1 := Lib.hid hb1
        have HO : Hid (w1.ownsRow w.heap.size 78 4 v' (D ++ [f]).length (flat (D ++ [f]))) := by
          show w1.ownsRow _ _ _ _ _ _
          rw [flat_append, HF.out, List.length_append, hc1]; exact hown'
        clear hb1 hown' hgrow
        go_roundw
        case rel =>
          refine ⟨k + 1, by omega, by go_num, ⟨m, by omega, rfl, ?_⟩, HB1.out, ?_⟩
          · show _ = _
            rw [EK.out, E2.out]
          · rw [EF.out, E1.out]; exact HO.out
        case measure => simp [intOf]; omega
      · have HC2 := Lib.hid hc
        have tests : f.fresh = false → ((f.synced : Int) == (f.bytes.size : Int)) = false := by
          intro h'
          rw [beq_eq_false_iff_ne]
          intro e; exact hc ⟨h', by omega⟩
        clear hc
        cases hfr : f.fresh with
        | true =>
          rw [hfr] at k3
          by_cases hml : m < ks.length
          · rcases HC.out with hz | ⟨gk, ok, rfl, hQ, hcc⟩
            · omega
            have hcx : wr.cell? ⟨gk, ok + m, none⟩ = some (.int .i64 (ks.getD m 0)) := (HB.out.cell (p := ⟨gk, ok + m, none⟩) hQ.2).trans (hcc m hml)
            have hwx := hwf m
            have hhd : (ks.drop m).headD (-1) = ks.getD m 0 := by simp [List.headD_eq_head?_getD, List.head?_drop, List.getElem?_eq_getElem hml]
            have hca := fun (ob : Obj) => cell_alloc' ob hcx
            generalize ks.getD m 0 = z at *
            clear hcc hcx
            by_cases hx : z < 0
            · obtain ⟨e1, e2⟩ := crashF_one_gone (ks := ks.drop m) HC2.out ⟨hfr, by rw [hhd]; exact hx⟩
              have E1 := Lib.hid e1
              have E2 := Lib.hid e2
              clear e1 e2 hhd hfr tests
              go_wp2
              go_roundw
              case rel =>
                refine ⟨k + 1, by omega, by go_num, ⟨m + 1, by omega, by go_num, ?_⟩, HB.out.alloc HB.out.size _, ?_⟩
                · show _ = _
                  rw [EK.out, E2.out, List.tail_drop]
                · rw [EF.out, E1.out, List.append_nil]; exact hown.alloc _
              case measure => simp [intOf]; omega
            · obtain ⟨e1, e2⟩ := crashF_one_cut (ks := ks.drop m) HC2.out (fun h => hx (by rw [← hhd]; exact h.2))
              rw [hhd] at e1
              have E1 := Lib.hid e1
              have E2 := Lib.hid e2
              clear e1 e2 hhd hfr tests
              have ht : min (max z 0) ((f.bytes.size : Int) - f.synced) + f.synced = ((cutTo f z).synced : Int) := by simp only [cutTo]; omega
              have htl : (cutTo f z).synced ≤ f.bytes.size := by simp only [cutTo]; omega
              have hcf : flat [cutTo f z] = [.string ⟨f.name.toArray⟩, .string (f.bytes.extract 0 (cutTo f z).synced), .int .i64 ((cutTo f z).synced : Int), .bool false] := rfl
              have HCF := Lib.hid hcf
              clear hcf
              go_upto_region 14 with fail
              try rw [ht]
              generalize (cutTo f z).synced = tn at *
              clear ht
              have q0 : (wr.alloc (.cells #[.string ⟨f.name.toArray⟩, .string f.bytes, .int .i64 (f.synced : Int), .bool true] 78)).cell? ⟨wr.heap.size, 0, none⟩ = some (.string ⟨f.name.toArray⟩) := by unfold World.cell?; rw [heap_new]; rfl
              have q1 : (wr.alloc (.cells #[.string ⟨f.name.toArray⟩, .string f.bytes, .int .i64 (f.synced : Int), .bool true] 78)).cell? ⟨wr.heap.size, 1, none⟩ = some (.string f.bytes) := by unfold World.cell?; rw [heap_new]; rfl
              have HBx := Lib.hid (HB.out.alloc HB.out.size (.cells #[.string ⟨f.name.toArray⟩, .string f.bytes, .int .i64 (f.synced : Int), .bool true] 78))
              have HOx := Lib.hid (hown.alloc (.cells #[.string ⟨f.name.toArray⟩, .string f.bytes, .int .i64 (f.synced : Int), .bool true] 78))
              generalize wr.alloc (.cells #[.string ⟨f.name.toArray⟩, .string f.bytes, .int .i64 (f.synced : Int), .bool true] 78) = wx at *
              have HOd := Lib.hid (HOx.out.drew)
              generalize u4 = v4 at *
              go_region_law (refine step_append_own rfl (.tmp 68) (.tmp 77) 68 rfl w.heap.size 78 i0 (.agg #[.string ByteArray.empty, .string ByteArray.empty, .int .i64 0, .bool false]) 4 48 Try.underlying68 hi hz0 hz1 hz2 rfl (by decide) v4 D.length (flat D) rfl (HOd.out.alloc _) ⟨wx.drew.heap.size, 0, none⟩ 1 1 [.string ⟨f.name.toArray⟩, .string (f.bytes.extract 0 tn), .int .i64 (tn : Int), .bool false] rfl rfl (cells_four _ _ _ _ _ _) (by simp [Value.oneCell']) (by unfold maxLen; omega) (by omega) (by have := HBx.out.size; simp; omega) ?_; intro v' w1 hown' hgrow)
              all_goals
                have hbd : Below w.heap.size w wx.drew := HBx.out.drew
                have hb1 : Below w.heap.size w w1 := (hbd.alloc hbd.size _).grown hgrow (by have := hbd.size; simp at this ⊢; omega) (fun k hk => (HOd.out.lt k hk).1)
                have HB1 := Lib.hid hb1
                have HO : Hid (w1.ownsRow w.heap.size 78 4 v' (D ++ [cutTo f z]).length (flat (D ++ [cutTo f z]))) := by
                  show w1.ownsRow _ _ _ _ _ _
                  rw [flat_append, HCF.out, List.length_append]; exact hown'
                clear hb1 hbd hown' hgrow
                go_wp2
                go_roundw
                case rel =>
                  refine ⟨k + 1, by omega, by go_num, ⟨m + 1, by omega, by go_num, ?_⟩, HB1.out, ?_⟩
                  · show _ = _
                    rw [EK.out, E2.out, List.tail_drop]
                  · rw [EF.out, E1.out]; exact HO.out
                case measure => simp [intOf]; omega
          · have hhd : (ks.drop m).headD (-1) = -1 := by rw [List.drop_eq_nil_of_le (by omega)]; rfl
            obtain ⟨e1, e2⟩ := crashF_one_gone (ks := ks.drop m) HC2.out ⟨hfr, by rw [hhd]; omega⟩
            have E1 := Lib.hid e1
            have E2 := Lib.hid e2
            clear e1 e2 hhd hfr tests
            go_wp2
            go_roundw
            case rel =>
              refine ⟨k + 1, by omega, by go_num, ⟨m + 1, by omega, by go_num, ?_⟩, HB.out.alloc HB.out.size _, ?_⟩
              · show _ = _
                rw [EK.out, E2.out, List.tail_drop]
              · rw [EF.out, E1.out, List.append_nil]; exact hown.alloc _
            case measure => simp [intOf]; omega
        | false =>
          rw [hfr] at k3
          have hq := tests hfr
          by_cases hml : m < ks.length
          · rcases HC.out with hz | ⟨gk, ok, rfl, hQ, hcc⟩
            · omega
            have hcx : wr.cell? ⟨gk, ok + m, none⟩ = some (.int .i64 (ks.getD m 0)) := (HB.out.cell (p := ⟨gk, ok + m, none⟩) hQ.2).trans (hcc m hml)
            have hwx := hwf m
            have hhd : (ks.drop m).headD (-1) = ks.getD m 0 := by simp [List.headD_eq_head?_getD, List.head?_drop, List.getElem?_eq_getElem hml]
            have hca := fun (ob : Obj) => cell_alloc' ob hcx
            generalize ks.getD m 0 = z at *
            clear hcc hcx
            obtain ⟨e1, e2⟩ := crashF_one_cut (ks := ks.drop m) HC2.out (fun h => by rw [hfr] at h; cases h.1)
            rw [hhd] at e1
            have E1 := Lib.hid e1
            have E2 := Lib.hid e2
            clear e1 e2 hhd hfr tests
            have ht : min (max z 0) ((f.bytes.size : Int) - f.synced) + f.synced = ((cutTo f z).synced : Int) := by simp only [cutTo]; omega
            have htl : (cutTo f z).synced ≤ f.bytes.size := by simp only [cutTo]; omega
            have hcf : flat [cutTo f z] = [.string ⟨f.name.toArray⟩, .string (f.bytes.extract 0 (cutTo f z).synced), .int .i64 ((cutTo f z).synced : Int), .bool false] := rfl
            have HCF := Lib.hid hcf
            clear hcf
            go_upto_region 14 with fail
            try rw [ht]
            generalize (cutTo f z).synced = tn at *
            clear ht
            have q0 : (wr.alloc (.cells #[.string ⟨f.name.toArray⟩, .string f.bytes, .int .i64 (f.synced : Int), .bool false] 78)).cell? ⟨wr.heap.size, 0, none⟩ = some (.string ⟨f.name.toArray⟩) := by unfold World.cell?; rw [heap_new]; rfl
            have q1 : (wr.alloc (.cells #[.string ⟨f.name.toArray⟩, .string f.bytes, .int .i64 (f.synced : Int), .bool false] 78)).cell? ⟨wr.heap.size, 1, none⟩ = some (.string f.bytes) := by unfold World.cell?; rw [heap_new]; rfl
            have HBx := Lib.hid (HB.out.alloc HB.out.size (.cells #[.string ⟨f.name.toArray⟩, .string f.bytes, .int .i64 (f.synced : Int), .bool false] 78))
            have HOx := Lib.hid (hown.alloc (.cells #[.string ⟨f.name.toArray⟩, .string f.bytes, .int .i64 (f.synced : Int), .bool false] 78))
            generalize wr.alloc (.cells #[.string ⟨f.name.toArray⟩, .string f.bytes, .int .i64 (f.synced : Int), .bool false] 78) = wx at *
            have HOd := Lib.hid (HOx.out.drew)
            generalize u4 = v4 at *
            go_region_law (refine step_append_own rfl (.tmp 68) (.tmp 77) 68 rfl w.heap.size 78 i0 (.agg #[.string ByteArray.empty, .string ByteArray.empty, .int .i64 0, .bool false]) 4 48 Try.underlying68 hi hz0 hz1 hz2 rfl (by decide) v4 D.length (flat D) rfl (HOd.out.alloc _) ⟨wx.drew.heap.size, 0, none⟩ 1 1 [.string ⟨f.name.toArray⟩, .string (f.bytes.extract 0 tn), .int .i64 (tn : Int), .bool false] rfl rfl (cells_four _ _ _ _ _ _) (by simp [Value.oneCell']) (by unfold maxLen; omega) (by omega) (by have := HBx.out.size; simp; omega) ?_; intro v' w1 hown' hgrow)
            all_goals
              have hbd : Below w.heap.size w wx.drew := HBx.out.drew
              have hb1 : Below w.heap.size w w1 := (hbd.alloc hbd.size _).grown hgrow (by have := hbd.size; simp at this ⊢; omega) (fun k hk => (HOd.out.lt k hk).1)
              have HB1 := Lib.hid hb1
              have HO : Hid (w1.ownsRow w.heap.size 78 4 v' (D ++ [cutTo f z]).length (flat (D ++ [cutTo f z]))) := by
                show w1.ownsRow _ _ _ _ _ _
                rw [flat_append, HCF.out, List.length_append]; exact hown'
              clear hb1 hbd hown' hgrow
              go_wp2
              go_roundw
              case rel =>
                refine ⟨k + 1, by omega, by go_num, ⟨m + 1, by omega, by go_num, ?_⟩, HB1.out, ?_⟩
                · show _ = _
                  rw [EK.out, E2.out, List.tail_drop]
                · rw [EF.out, E1.out]; exact HO.out
              case measure => simp [intOf]; omega
          · have hhd : (ks.drop m).headD (-1) = -1 := by rw [List.drop_eq_nil_of_le (by omega)]; rfl
            obtain ⟨e1, e2⟩ := crashF_one_cut (ks := ks.drop m) HC2.out (fun h => by rw [hfr] at h; cases h.1)
            rw [hhd] at e1
            have E1 := Lib.hid e1
            have E2 := Lib.hid e2
            clear e1 e2 hhd hfr tests
            have ht : min (max (-1) 0) ((f.bytes.size : Int) - f.synced) + f.synced = ((cutTo f (-1)).synced : Int) := by simp only [cutTo]; omega
            have htl : (cutTo f (-1)).synced ≤ f.bytes.size := by simp only [cutTo]; omega
            have hcf : flat [cutTo f (-1)] = [.string ⟨f.name.toArray⟩, .string (f.bytes.extract 0 (cutTo f (-1)).synced), .int .i64 ((cutTo f (-1)).synced : Int), .bool false] := rfl
            have HCF := Lib.hid hcf
            clear hcf
            go_upto_region 14 with fail
            try rw [ht]
            generalize (cutTo f (-1)).synced = tn at *
            clear ht
            have q0 : (wr.alloc (.cells #[.string ⟨f.name.toArray⟩, .string f.bytes, .int .i64 (f.synced : Int), .bool false] 78)).cell? ⟨wr.heap.size, 0, none⟩ = some (.string ⟨f.name.toArray⟩) := by unfold World.cell?; rw [heap_new]; rfl
            have q1 : (wr.alloc (.cells #[.string ⟨f.name.toArray⟩, .string f.bytes, .int .i64 (f.synced : Int), .bool false] 78)).cell? ⟨wr.heap.size, 1, none⟩ = some (.string f.bytes) := by unfold World.cell?; rw [heap_new]; rfl
            have HBx := Lib.hid (HB.out.alloc HB.out.size (.cells #[.string ⟨f.name.toArray⟩, .string f.bytes, .int .i64 (f.synced : Int), .bool false] 78))
            have HOx := Lib.hid (hown.alloc (.cells #[.string ⟨f.name.toArray⟩, .string f.bytes, .int .i64 (f.synced : Int), .bool false] 78))
            generalize wr.alloc (.cells #[.string ⟨f.name.toArray⟩, .string f.bytes, .int .i64 (f.synced : Int), .bool false] 78) = wx at *
            have HOd := Lib.hid (HOx.out.drew)
            generalize u4 = v4 at *
            go_region_law (refine step_append_own rfl (.tmp 68) (.tmp 77) 68 rfl w.heap.size 78 i0 (.agg #[.string ByteArray.empty, .string ByteArray.empty, .int .i64 0, .bool false]) 4 48 Try.underlying68 hi hz0 hz1 hz2 rfl (by decide) v4 D.length (flat D) rfl (HOd.out.alloc _) ⟨wx.drew.heap.size, 0, none⟩ 1 1 [.string ⟨f.name.toArray⟩, .string (f.bytes.extract 0 tn), .int .i64 (tn : Int), .bool false] rfl rfl (cells_four _ _ _ _ _ _) (by simp [Value.oneCell']) (by unfold maxLen; omega) (by omega) (by have := HBx.out.size; simp; omega) ?_; intro v' w1 hown' hgrow)
            all_goals
              have hbd : Below w.heap.size w wx.drew := HBx.out.drew
              have hb1 : Below w.heap.size w w1 := (hbd.alloc hbd.size _).grown hgrow (by have := hbd.size; simp at this ⊢; omega) (fun k hk => (HOd.out.lt k hk).1)
              have HB1 := Lib.hid hb1
              have HO : Hid (w1.ownsRow w.heap.size 78 4 v' (D ++ [cutTo f (-1)]).length (flat (D ++ [cutTo f (-1)]))) := by
                show w1.ownsRow _ _ _ _ _ _
                rw [flat_append, HCF.out, List.length_append]; exact hown'
              clear hb1 hbd hown' hgrow
              go_wp2
              go_roundw
              case rel =>
                refine ⟨k + 1, by omega, by go_num, ⟨m + 1, by omega, by go_num, ?_⟩, HB1.out, ?_⟩
                · show _ = _
                  rw [EK.out, E2.out, List.tail_drop]
                · rw [EF.out, E1.out]; exact HO.out
              case measure => simp [intOf]; omega
    · obtain rfl : k = R.L.length := by omega
      rw [List.take_length] at hown
      have fr1 := hl.free.1
      obtain ⟨a2, c2, hv2⟩ := ownsRow_slice hown
      subst hv2
      have HO := Lib.hid hown
      have fr2 := hl.free.2.1
      have fr3 := hl.free.2.2
      have cr2 := hl.cell.2.2.1
      have cr3 := hl.cell.2.2.2
      clear hb hown hl
      go_wp2
      go_end0
      refine ⟨rfl, ?_⟩
      obtain ⟨fp', ⟨v', hl'⟩, hx', hs'⟩ := HL.out.newL HB.out HO.out
      exact ⟨fp', ⟨v', (hl'.down2 0).down3 0⟩, (hx'.trans' (hl'.extX 2 _) hs').trans' ((hl'.down2 0).extX 3 _) hs', hs'⟩
end Go.Proofs.Ytbopfdbenjnipaa
