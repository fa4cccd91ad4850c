/- Printed by program: runs of the abstract machine, by the kernel. -/
import Derived.Test.YtmafgdnlggoljaaGreatDoorV2
namespace Go.Kx
open Go
theorem Pd_run (n q x k s S g S' R : Int) (N I b : Nat) (L : List AV) (a : Nat → Int) : viewF (nmL 52 [(60, 0)]) (Pf_L n q x k s S g S' R N I b L a) (Pf_M n q x k s S g S' R N I b L a) (bodyOf 7) (runS EV 4000 (KP 7 [1, 1, 1, 1, 1, 1, 1, 0, 2]) (Pb_fr n q x k s S g S' R N I b L a) [] (mkH 64 (Pb_L n q x k s S g S' R N I b L a) (Pb_M n q x k s S g S' R N I b L a)) 100000
    [] []) = some (some (ren (nmL 52 [(60, 0)]) (Pd_V n q x k s S g S' R N I b L a)), [], some .ret, Pd_ob n q x k s S g S' R N I b L a, objs (nmL 52 [(60, 0)]) (Pf_L n q x k s S g S' R N I b L a), maps (nmL 52 [(60, 0)]) (Pf_M n q x k s S g S' R N I b L a)) := by kernel_rfl
end Go.Kx
namespace Go.Kx
open Go
theorem Pg_run (n q x k s S g S' R : Int) (N I b : Nat) (L : List AV) (a : Nat → Int) : viewF (nmL 3 []) (Pz_L n q x k s S g S' R N I b L a) (Pz_M n q x k s S g S' R N I b L a) (bodyOf 3) (runS EV 4000 (KP 3 [1, 1, 1, 1, 1, 1, 1, 1, 0, 7]) (Pa_fr n q x k s S g S' R N I b L a) [] (mkH 53 (Pa_L n q x k s S g S' R N I b L a) (Pa_M n q x k s S g S' R N I b L a)) 20
    [(.val (.bool false), 2),
    (.val (.bool true), 100000)] []) = some (some (ren (nmL 3 []) (Pg_V n q x k s S g S' R N I b L a)), [], some .ret, Pg_ob n q x k s S g S' R N I b L a, objs (nmL 3 []) (Pz_L n q x k s S g S' R N I b L a), maps (nmL 3 []) (Pz_M n q x k s S g S' R N I b L a)) := by kernel_rfl
end Go.Kx
namespace Go.Kx
open Go
theorem Qd_run (n q x k s S g S' R : Int) (N I b : Nat) (L : List AV) (a : Nat → Int) : viewF (nmL 52 [(60, 0)]) (Qf_L n q x k s S g S' R N I b L a) (Qf_M n q x k s S g S' R N I b L a) (bodyOf 7) (runS EV 4000 (KP 7 [1, 1, 1, 1, 1, 1, 1, 0, 2]) (Qb_fr n q x k s S g S' R N I b L a) [] (mkH 64 (Qb_L n q x k s S g S' R N I b L a) (Qb_M n q x k s S g S' R N I b L a)) 100000
    [] []) = some (some (ren (nmL 52 [(60, 0)]) (Qd_V n q x k s S g S' R N I b L a)), [], some .ret, Qd_ob n q x k s S g S' R N I b L a, objs (nmL 52 [(60, 0)]) (Qf_L n q x k s S g S' R N I b L a), maps (nmL 52 [(60, 0)]) (Qf_M n q x k s S g S' R N I b L a)) := by kernel_rfl
end Go.Kx
namespace Go.Kx
open Go
theorem Qg_run (n q x k s S g S' R : Int) (N I b : Nat) (L : List AV) (a : Nat → Int) : viewF (nmL 3 []) (Qz_L n q x k s S g S' R N I b L a) (Qz_M n q x k s S g S' R N I b L a) (bodyOf 3) (runS EV 4000 (KP 3 [1, 1, 1, 1, 1, 1, 1, 1, 0, 7]) (Qa_fr n q x k s S g S' R N I b L a) [] (mkH 53 (Qa_L n q x k s S g S' R N I b L a) (Qa_M n q x k s S g S' R N I b L a)) 20
    [(.val (.bool false), 2),
    (.val (.bool false), 3),
    (.val (.bool true), 100000)] []) = some (some (ren (nmL 3 []) (Qg_V n q x k s S g S' R N I b L a)), [], some .ret, Qg_ob n q x k s S g S' R N I b L a, objs (nmL 3 []) (Qz_L n q x k s S g S' R N I b L a), maps (nmL 3 []) (Qz_M n q x k s S g S' R N I b L a)) := by kernel_rfl
end Go.Kx
namespace Go.Kx
open Go
theorem Rd_run (n q x k s S g S' R : Int) (N I b : Nat) (L : List AV) (a : Nat → Int) : viewF (nmL 52 [(60, 0)]) (Rf_L n q x k s (S : Int) g S' R N I b L a) (Rf_M n q x k s (S : Int) g S' R N I b L a) (bodyOf 7) (runS EV 4000 (KP 7 [1, 1, 1, 1, 1, 1, 1, 0, 2]) (Rb_fr n q x k s S g S' R N I b L a) [] (mkH 64 (Rb_L n q x k s S g S' R N I b L a) (Rb_M n q x k s S g S' R N I b L a)) 100000
    [] []) = some (some (ren (nmL 52 [(60, 0)]) (Rd_V n q x k s (S : Int) g S' R N I b L a)), [], some .ret, Rd_ob n q x k s S g S' R N I b L a, objs (nmL 52 [(60, 0)]) (Rf_L n q x k s (S : Int) g S' R N I b L a), maps (nmL 52 [(60, 0)]) (Rf_M n q x k s (S : Int) g S' R N I b L a)) := by kernel_rfl
end Go.Kx
namespace Go.Kx
open Go
theorem Rg_run (n q x k s S g S' R : Int) (N I b : Nat) (L : List AV) (a : Nat → Int) : viewF (nmL 3 []) (Rz_L n q x k s S g S' R N I b L a) (Rz_M n q x k s S g S' R N I b L a) (bodyOf 3) (runS EV 4000 (KP 3 [1, 1, 1, 1, 1, 1, 1, 1, 0, 7]) (Ra_fr n q x k s S g S' R N I b L a) [] (mkH 53 (Ra_L n q x k s S g S' R N I b L a) (Ra_M n q x k s S g S' R N I b L a)) 20
    [(.val (.bool false), 2),
    (.val (.bool false), 3),
    (.val (.bool false), 9),
    (.val (.int .i64 (↑N - 1 : Int)), 0),
    (.val (.int .i64 (((↑N : Int) * (↑N - 1 : Int)) : Int)), 0),
    (.val (.int .i64 ((Int.tdiv (((↑N : Int) * (↑N - 1 : Int)) : Int) 2) : Int)), 1),
    (.val (.int .i64 ((Int.tdiv (((↑N : Int) * (↑N - 1 : Int)) : Int) 2) - k + 16 : Int)), 1),
    (.val (.int .i64 (R : Int)), 0),
    (.val (.bool true), 100000)] []) = some (some (ren (nmL 3 []) (Rg_V n q x k s S g S' R N I b L a)), [], some .ret, Rg_ob n q x k s S g S' R N I b L a, objs (nmL 3 []) (Rz_L n q x k s S g S' R N I b L a), maps (nmL 3 []) (Rz_M n q x k s S g S' R N I b L a)) := by kernel_rfl
end Go.Kx
